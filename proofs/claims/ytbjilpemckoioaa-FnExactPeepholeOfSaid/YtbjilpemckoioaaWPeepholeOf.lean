/- The walk of the law FnExactPeepholeOf: it returns true and writes nothing that was there. -/
import Derived.Test.YtbjilpemckoioaaPeep
import Derived.Test.YtbjilpemckoioaaHInstr
import Derived.Test.YtbjilpemckoioaaMInstr
import Derived.Test.YtbjilpemckoioaaBases
import Derived.Deep.RegionHeld3
import Derived.Deep.Cut
import Derived.Deep.CutBlock
namespace Go.Proofs.Ytbjilpemckoioaa
open Go.RowKit
set_option linter.unusedVariables false
set_option maxRecDepth 100000
theorem box_new (w : World) (v : Value) (E : TypeId) : Box1 (w.alloc (.cells #[v] E)) w.heap.size v := ⟨by go_simp, by go_simp⟩
theorem alloc_swap {w : World} {o p : Obj} {a : Nat} {u : Value} (h : (w.alloc o).cell? ⟨a, 0, none⟩ = some u) (ha : a < w.heap.size) : (w.alloc p).cell? ⟨a, 0, none⟩ = some u := by
  rw [(below_a1 w).cell ha] at h ⊢; exact h
theorem keepSet {w : World} {a b o : Nat} {u v : Value} (h : w.cell? ⟨a, 0, none⟩ = some u) (hne : a ≠ b) : (w.setCell ⟨b, o, none⟩ v).cell? ⟨a, 0, none⟩ = some u :=
  (grownBy_setCell w ⟨b, o, none⟩ v).cell h (by simpa using hne)
theorem ownR_weaken {w : World} {B B2 E sz : Nat} {v : Value} {rows : List (List Value)} {rb : Option Nat} (h : OwnR w B E sz v rows rb) (hB : B2 ≤ B) : OwnR w B2 E sz v rows rb := by
  rcases h with ⟨h1, h⟩ | h
  · exact .inl ⟨h1, h.weaken hB⟩
  · exact .inr h
set_option maxHeartbeats 8000000 in
theorem law_PeepholeOf (l0 : List DInstr) (v0 : Value) (w : World) (hlm0 : l0.length ≤ maxLen) (h0 : Sl w v0 6 (l0.map DInstr.enc)) (hok0 : ∀ x ∈ l0, DInstr.ok x) :
    Calls Try.prog 6 #[.agg #[v0]] w (LawTrue w) := by
  unfold maxLen at *
  have hS0 := hd h0
  obtain ⟨a0, c0, rfl, _⟩ := h0
  have hok0 := hd hok0
  simp only [List.length_map] at *
  go_enter Try.func6, Try.ntmps6
  go_wp2_with fail
  refine (szProgram l0 _ _ _ (by omega) (by omega) hlm0 hok0.out (hS0.out.mono (below_a1 _))).mono ?_
  rintro e w1 ⟨r0, rfl, hr00, hr10, hr20, hb1⟩
  have q0 := keepCell hb1 (show _ = some (.slice a0 l0.length c0) from (by go_simp : World.cell? _ ⟨w.heap.size, 0, none⟩ = _))
  have hB := hd ((below_a1 _).next hb1)
  have hz0 := hb1.size
  have hz00 : w.heap.size + 1 ≤ w1.heap.size := by simp at hz0; omega
  clear hz0 hb1
  by_cases hn0 : r0 < 0
  · go_wp2_with fail
    go_ret
    exact ⟨rfl, hB.out⟩
  have hl0 : l0.length ≤ 1048576 := by have := hr20 (by omega); omega
  have hn0' : 0 ≤ r0 := by omega
  have hsm0 := hd (hr20 hn0').2
  clear hr20 hn0 hlm0
  go_wp2_with fail
  obtain ⟨b, r, hr, hr60⟩ := phP_ex l0
  replace hr := hd hr
  have hrl : r.length ≤ 1000000 := by omega
  refine (toProgram l0 _ _ (by omega) (hS0.out.mono hB.out)).mono ?_
  rintro e ws0 ⟨zs0, rfl, hos0, hbs0⟩
  obtain ⟨as0, cs0, rfl, _⟩ := hos0.sl
  rw [List.length_map] at hos0 ⊢
  have ns0 := hd hos0.lt
  have hos0 := hd hos0
  have q0' := keepCell hbs0 q0
  clear q0
  have q0 := q0'
  clear q0'
  have hz1 := hbs0.size
  have hB' := hd (hB.out.next hbs0)
  clear hB
  have hB := hB'
  clear hB'
  clear hbs0
  go_wp2_with fail
  refine (PeepholeOf_s l0 _ _ (by omega) hos0.out.sl b r hr.out).mono ?_
  rintro e wW ⟨zW, rbW, rfl, hoW, hbW⟩
  obtain ⟨aW, cW, rfl, _⟩ := hoW.sl
  rw [List.length_map] at hoW ⊢
  have nW := hd hoW.lt
  have hoW := hd hoW
  clear hos0
  have q0' := keepCell hbW q0
  clear q0
  have q0 := q0'
  clear q0'
  have hz2 := hbW.size
  have hB' := hd (hB.out.next hbW)
  clear hB
  have hB := hB'
  clear hB'
  clear hbW
  go_upto_region 6 with (fail)
  have hal := below_a1 wW (a := .cells #[.slice aW r.length cW] 52)
  have q0' := keepCell hal q0
  clear q0
  have q0 := q0'
  clear q0'
  have hoW' := hd (hoW.out.below hal)
  clear hoW
  have hoW := hoW'
  clear hoW'
  have hz3 := hal.size
  have hB' := hd (hB.out.next hal)
  clear hB
  have hB := hB'
  clear hB'
  have hzzW : wW.heap.size + 1 ≤ (wW.alloc (.cells #[.slice aW r.length cW] 52)).heap.size := by simp
  have qbW : (wW.alloc (.cells #[.slice aW r.length cW] 52)).cell? ⟨wW.heap.size, 0, none⟩ = some (.slice aW r.length cW) := by go_simp
  clear hal
  generalize wW.alloc (.cells #[.slice aW r.length cW] 52) = yW at q0 qbW hoW hB hz3 hzzW ⊢
  go_wp2_with fail
  refine (toProgram l0 _ _ (by omega) (hS0.out.mono hB.out)).mono ?_
  rintro e wx0 ⟨zx0, rfl, hox0, hbx0⟩
  obtain ⟨ax0, cx0, rfl, _⟩ := hox0.sl
  rw [List.length_map] at hox0 ⊢
  have nx0 := hd hox0.lt
  have hox0 := hd hox0
  have q0' := keepCell hbx0 q0
  clear q0
  have q0 := q0'
  clear q0'
  have qbW' := keepCell hbx0 qbW
  clear qbW
  have qbW := qbW'
  clear qbW'
  have hoW' := hd (hoW.out.below hbx0)
  clear hoW
  have hoW := hoW'
  clear hoW'
  have hz4 := hbx0.size
  have hB' := hd (hB.out.next hbx0)
  clear hB
  have hB := hB'
  clear hB'
  clear hbx0
  go_upto_region 7 with (fail)
  have hal := below_a1 wx0 (a := .cells #[.slice ax0 l0.length cx0] 52)
  have q0' := keepCell hal q0
  clear q0
  have q0 := q0'
  clear q0'
  have qbW' := keepCell hal qbW
  clear qbW
  have qbW := qbW'
  clear qbW'
  have hoW' := hd (hoW.out.below hal)
  clear hoW
  have hoW := hoW'
  clear hoW'
  have hox0' := hd (hox0.out.below hal)
  clear hox0
  have hox0 := hox0'
  clear hox0'
  have hz5 := hal.size
  have hB' := hd (hB.out.next hal)
  clear hB
  have hB := hB'
  clear hB'
  have hzzx0 : wx0.heap.size + 1 ≤ (wx0.alloc (.cells #[.slice ax0 l0.length cx0] 52)).heap.size := by simp
  have qbx0 : (wx0.alloc (.cells #[.slice ax0 l0.length cx0] 52)).cell? ⟨wx0.heap.size, 0, none⟩ = some (.slice ax0 l0.length cx0) := by go_simp
  clear hal
  generalize wx0.alloc (.cells #[.slice ax0 l0.length cx0] 52) = yx0 at q0 qbW qbx0 hoW hox0 hB hz5 hzzx0 ⊢
  go_wp2_with fail
  refine (PeepholeOf_i l0 _ _ (by omega) hox0.out.sl b r hr.out).mono ?_
  rintro e wG ⟨zG, rbG, rfl, hoG, hbG⟩
  obtain ⟨aG, cG, rfl, _⟩ := hoG.sl
  rw [List.length_map] at hoG ⊢
  have nG := hd hoG.lt
  have hoG := hd hoG
  have q0' := keepCell hbG q0
  clear q0
  have q0 := q0'
  clear q0'
  have qbW' := keepCell hbG qbW
  clear qbW
  have qbW := qbW'
  clear qbW'
  have qbx0' := keepCell hbG qbx0
  clear qbx0
  have qbx0 := qbx0'
  clear qbx0'
  have hoW' := hd (hoW.out.below hbG)
  clear hoW
  have hoW := hoW'
  clear hoW'
  have hox0' := hd (hox0.out.below hbG)
  clear hox0
  have hox0 := hox0'
  clear hox0'
  have hz6 := hbG.size
  have hB' := hd (hB.out.next hbG)
  clear hB
  have hB := hB'
  clear hB'
  clear hbG
  go_upto_region 8 with (fail)
  have hal := below_a1 wG (a := .cells #[.slice aG r.length cG] 52)
  have q0' := keepCell hal q0
  clear q0
  have q0 := q0'
  clear q0'
  have qbW' := keepCell hal qbW
  clear qbW
  have qbW := qbW'
  clear qbW'
  have qbx0' := keepCell hal qbx0
  clear qbx0
  have qbx0 := qbx0'
  clear qbx0'
  have hoW' := hd (hoW.out.below hal)
  clear hoW
  have hoW := hoW'
  clear hoW'
  have hox0' := hd (hox0.out.below hal)
  clear hox0
  have hox0 := hox0'
  clear hox0'
  have hoG' := hd (hoG.out.below hal)
  clear hoG
  have hoG := hoG'
  clear hoG'
  have hz7 := hal.size
  have hB' := hd (hB.out.next hal)
  clear hB
  have hB := hB'
  clear hB'
  have hzzG : wG.heap.size + 1 ≤ (wG.alloc (.cells #[.slice aG r.length cG] 52)).heap.size := by simp
  have qbG : (wG.alloc (.cells #[.slice aG r.length cG] 52)).cell? ⟨wG.heap.size, 0, none⟩ = some (.slice aG r.length cG) := by go_simp
  clear hal
  generalize wG.alloc (.cells #[.slice aG r.length cG] 52) = yG at q0 qbW qbx0 qbG hoW hox0 hoG hB hz7 hzzG ⊢
  go_wp2_with fail
  refine (eqProgram r _ _ _ (by omega) hoG.out.sl hoW.out.sl).mono ?_
  rintro e we ⟨rfl, hbe⟩
  have q0' := keepCell hbe q0
  clear q0
  have q0 := q0'
  clear q0'
  have qbW' := keepCell hbe qbW
  clear qbW
  have qbW := qbW'
  clear qbW'
  have qbx0' := keepCell hbe qbx0
  clear qbx0
  have qbx0 := qbx0'
  clear qbx0'
  have qbG' := keepCell hbe qbG
  clear qbG
  have qbG := qbG'
  clear qbG'
  have hoW' := hd (hoW.out.below hbe)
  clear hoW
  have hoW := hoW'
  clear hoW'
  have hox0' := hd (hox0.out.below hbe)
  clear hox0
  have hox0 := hox0'
  clear hox0'
  have hoG' := hd (hoG.out.below hbe)
  clear hoG
  have hoG := hoG'
  clear hoG'
  have hz8 := hbe.size
  have hB' := hd (hB.out.next hbe)
  clear hB
  have hB := hB'
  clear hB'
  clear hbe
  go_wp2_with fail
  go_region_held3 (fun w' => w'.cell? ⟨w.heap.size, 0, none⟩ = some (.slice a0 l0.length c0) ∧ w'.cell? ⟨wx0.heap.size, 0, none⟩ = some (.slice ax0 l0.length cx0))
    (first | go_keep | (go_split_ands; (repeat' apply And.intro) <;> first | exact keepCell hb8 (by assumption) | exact keepCell hb9 (by assumption)))
    (first
      | (go_at_call 27; refine (toProgram l0 _ _ (by omega) (hS0.out.mono hB.out.drew)).mono ?_; rintro e w8 ⟨v8, rfl, ho8, hb8⟩)
      | (go_at_call 29; refine (eqProgram l0 _ _ _ (by omega) (Own.below (hox0.out.below (Below.refl _ _).drew) hb8).sl ho8.sl).mono ?_; rintro e w9 ⟨rfl, hb9⟩))
  have hb10 := (Below.refl _ _).drew.trans (hb8.next hb9)
  have q0' := keepCell hb10 q0
  clear q0
  have q0 := q0'
  clear q0'
  have qbW' := keepCell hb10 qbW
  clear qbW
  have qbW := qbW'
  clear qbW'
  have qbx0' := keepCell hb10 qbx0
  clear qbx0
  have qbx0 := qbx0'
  clear qbx0'
  have qbG' := keepCell hb10 qbG
  clear qbG
  have qbG := qbG'
  clear qbG'
  have hoW' := hd (hoW.out.below hb10)
  clear hoW
  have hoW := hoW'
  clear hoW'
  have hox0' := hd (hox0.out.below hb10)
  clear hox0
  have hox0 := hox0'
  clear hox0'
  have hoG' := hd (hoG.out.below hb10)
  clear hoG
  have hoG := hoG'
  clear hoG'
  have hz9 := hb10.size
  have hB' := hd (hB.out.next hb10)
  clear hB
  have hB := hB'
  clear hB'
  clear hb8 hb9 ho8 hb10
  go_wp2_with fail
  refine (markProgram _ _ l0.length (by rw [List.length_map]) _ 1 _ (by omega) (by omega) (by omega) hox0.out).mono ?_
  rintro e wm0 ⟨rfl, hom0, hgm0⟩
  have q0' := keepG hgm0 q0 nx0.out (by omega)
  clear q0
  have q0 := q0'
  clear q0'
  have qbW' := keepG hgm0 qbW nx0.out (by omega)
  clear qbW
  have qbW := qbW'
  clear qbW'
  have qbx0' := keepG hgm0 qbx0 nx0.out (by omega)
  clear qbx0
  have qbx0 := qbx0'
  clear qbx0'
  have qbG' := keepG hgm0 qbG nx0.out (by omega)
  clear qbG
  have qbG := qbG'
  clear qbG'
  have hoW' := hd (hoW.out.kept hgm0 (apart nW.out nx0.out (by omega)))
  clear hoW
  have hoW := hoW'
  clear hoW'
  have hoG' := hd (hoG.out.kept hgm0 (apart nG.out nx0.out (by omega)))
  clear hoG
  have hoG := hoG'
  clear hoG'
  have hz10 := hgm0.size
  have hB' := hd (hB.out.grown hgm0 (by have := hB.out.size; omega) (by intro g e; have := nx0.out g e; omega))
  clear hB
  have hB := hB'
  clear hB'
  clear qbx0
  clear hgm0 hom0 hox0
  have hk00 : 1 ≤ 1 + 6 * (l0.length : Int) := by omega
  have hk10 : 1 + 6 * (l0.length : Int) ≤ 100000000 := by omega
  generalize 1 + 6 * (l0.length : Int) = K0 at hk00 hk10 ⊢
  go_wp2_with fail
  refine (eqProgram r _ _ _ (by omega) hoG.out.sl hoW.out.sl).mono ?_
  rintro e we ⟨rfl, hbe⟩
  have q0' := keepCell hbe q0
  clear q0
  have q0 := q0'
  clear q0'
  have qbW' := keepCell hbe qbW
  clear qbW
  have qbW := qbW'
  clear qbW'
  have qbG' := keepCell hbe qbG
  clear qbG
  have qbG := qbG'
  clear qbG'
  have hoW' := hd (hoW.out.below hbe)
  clear hoW
  have hoW := hoW'
  clear hoW'
  have hoG' := hd (hoG.out.below hbe)
  clear hoG
  have hoG := hoG'
  clear hoG'
  have hz11 := hbe.size
  have hB' := hd (hB.out.next hbe)
  clear hB
  have hB := hB'
  clear hB'
  clear hbe
  go_wp2_with fail
  refine (markProgramR _ _ r.length (by rw [List.length_map]) _ _ 1 _ (by omega) (by omega) (by omega) hoG.out).mono ?_
  rintro e wmG ⟨rfl, hoH, hgG⟩
  have q0' := keepG hgG q0 nG.out (by omega)
  clear q0
  have q0 := q0'
  clear q0'
  have qbW' := keepG hgG qbW nG.out (by omega)
  clear qbW
  have qbW := qbW'
  clear qbW'
  have qbG' := keepG hgG qbG nG.out (by omega)
  clear qbG
  have qbG := qbG'
  clear qbG'
  have hoW' := hd (hoW.out.kept hgG (apart nW.out nG.out (by omega)))
  clear hoW
  have hoW := hoW'
  clear hoW'
  have hz12 := hgG.size
  have hB' := hd (hB.out.grown hgG (by have := hB.out.size; omega) (by intro g e; have := nG.out g e; omega))
  clear hB
  have hB := hB'
  clear hB'
  clear hoG hgG
  have hoH := hd hoH
  have nH := hd hoH.out.lt
  have hm0 : ¬ 1 + 6 * (r.length : Int) < 0 := by omega
  go_wp2_with fail
  refine (heldProgram _ r.length 1 _ (by omega) (by omega) (by omega) hoH.out.sl).mono ?_
  rintro e wh ⟨rfl, hbh⟩
  have q0' := keepCell hbh q0
  clear q0
  have q0 := q0'
  clear q0'
  have qbW' := keepCell hbh qbW
  clear qbW
  have qbW := qbW'
  clear qbW'
  have qbG' := keepCell hbh qbG
  clear qbG
  have qbG := qbG'
  clear qbG'
  have hoW' := hd (hoW.out.below hbh)
  clear hoW
  have hoW := hoW'
  clear hoW'
  have hoH' := hd (hoH.out.below hbh)
  clear hoH
  have hoH := hoH'
  clear hoH'
  have hz13 := hbh.size
  have hB' := hd (hB.out.next hbh)
  clear hB
  have hB := hB'
  clear hB'
  clear hbh
  go_wp2_with fail
  refine (toProgram l0 _ _ (by omega) (hS0.out.mono hB.out)).mono ?_
  rintro e wt0 ⟨zt0, rfl, hot0, hbt0⟩
  obtain ⟨at0, ct0, rfl, _⟩ := hot0.sl
  rw [List.length_map] at hot0 ⊢
  have nt0 := hd hot0.lt
  have hot0 := hd hot0
  have q0' := keepCell hbt0 q0
  clear q0
  have q0 := q0'
  clear q0'
  have qbW' := keepCell hbt0 qbW
  clear qbW
  have qbW := qbW'
  clear qbW'
  have qbG' := keepCell hbt0 qbG
  clear qbG
  have qbG := qbG'
  clear qbG'
  have hoW' := hd (hoW.out.below hbt0)
  clear hoW
  have hoW := hoW'
  clear hoW'
  have hoH' := hd (hoH.out.below hbt0)
  clear hoH
  have hoH := hoH'
  clear hoH'
  have hz14 := hbt0.size
  have hB' := hd (hB.out.next hbt0)
  clear hB
  have hB := hB'
  clear hB'
  clear hbt0
  go_wp2_with fail
  refine (PeepholeOf_i l0 _ _ (by omega) hot0.out.sl b r hr.out).mono ?_
  rintro e wJ ⟨zJ, rbJ, rfl, hoJ, hbJ⟩
  obtain ⟨aJ, cJ, rfl, _⟩ := hoJ.sl
  rw [List.length_map] at hoJ ⊢
  have nJ := hd hoJ.lt
  have hoJ := hd hoJ
  clear hot0
  have q0' := keepCell hbJ q0
  clear q0
  have q0 := q0'
  clear q0'
  have qbW' := keepCell hbJ qbW
  clear qbW
  have qbW := qbW'
  clear qbW'
  have qbG' := keepCell hbJ qbG
  clear qbG
  have qbG := qbG'
  clear qbG'
  have hoW' := hd (hoW.out.below hbJ)
  clear hoW
  have hoW := hoW'
  clear hoW'
  have hoH' := hd (hoH.out.below hbJ)
  clear hoH
  have hoH := hoH'
  clear hoH'
  have hz15 := hbJ.size
  have hB' := hd (hB.out.next hbJ)
  clear hB
  have hB := hB'
  clear hB'
  clear hbJ
  go_upto_region 25 with (fail)
  have hal := below_a1 wJ (a := .cells #[.slice aJ r.length cJ] 52)
  have q0' := keepCell hal q0
  clear q0
  have q0 := q0'
  clear q0'
  have qbW' := keepCell hal qbW
  clear qbW
  have qbW := qbW'
  clear qbW'
  have qbG' := keepCell hal qbG
  clear qbG
  have qbG := qbG'
  clear qbG'
  have hoW' := hd (hoW.out.below hal)
  clear hoW
  have hoW := hoW'
  clear hoW'
  have hoH' := hd (hoH.out.below hal)
  clear hoH
  have hoH := hoH'
  clear hoH'
  have hoJ' := hd (hoJ.out.below hal)
  clear hoJ
  have hoJ := hoJ'
  clear hoJ'
  have hz16 := hal.size
  have hB' := hd (hB.out.next hal)
  clear hB
  have hB := hB'
  clear hB'
  have hzzJ : wJ.heap.size + 1 ≤ (wJ.alloc (.cells #[.slice aJ r.length cJ] 52)).heap.size := by simp
  have qbJ : (wJ.alloc (.cells #[.slice aJ r.length cJ] 52)).cell? ⟨wJ.heap.size, 0, none⟩ = some (.slice aJ r.length cJ) := by go_simp
  clear hal
  generalize wJ.alloc (.cells #[.slice aJ r.length cJ] 52) = yJ at q0 qbW qbG qbJ hoW hoH hoJ hB hz16 hzzJ ⊢
  go_wp2_with fail
  refine (eqProgram r _ _ _ (by omega) hoJ.out.sl hoW.out.sl).mono ?_
  rintro e we ⟨rfl, hbe⟩
  have q0' := keepCell hbe q0
  clear q0
  have q0 := q0'
  clear q0'
  have qbW' := keepCell hbe qbW
  clear qbW
  have qbW := qbW'
  clear qbW'
  have qbG' := keepCell hbe qbG
  clear qbG
  have qbG := qbG'
  clear qbG'
  have qbJ' := keepCell hbe qbJ
  clear qbJ
  have qbJ := qbJ'
  clear qbJ'
  have hoW' := hd (hoW.out.below hbe)
  clear hoW
  have hoW := hoW'
  clear hoW'
  have hoH' := hd (hoH.out.below hbe)
  clear hoH
  have hoH := hoH'
  clear hoH'
  have hoJ' := hd (hoJ.out.below hbe)
  clear hoJ
  have hoJ := hoJ'
  clear hoJ'
  have hz17 := hbe.size
  have hB' := hd (hB.out.next hbe)
  clear hB
  have hB := hB'
  clear hB'
  clear hbe
  go_wp2_with fail
  refine (heldProgram _ r.length 1 _ (by omega) (by omega) (by omega) hoH.out.sl).mono ?_
  rintro e wh ⟨rfl, hbh⟩
  have q0' := keepCell hbh q0
  clear q0
  have q0 := q0'
  clear q0'
  have qbW' := keepCell hbh qbW
  clear qbW
  have qbW := qbW'
  clear qbW'
  have qbG' := keepCell hbh qbG
  clear qbG
  have qbG := qbG'
  clear qbG'
  have qbJ' := keepCell hbh qbJ
  clear qbJ
  have qbJ := qbJ'
  clear qbJ'
  have hoW' := hd (hoW.out.below hbh)
  clear hoW
  have hoW := hoW'
  clear hoW'
  have hoH' := hd (hoH.out.below hbh)
  clear hoH
  have hoH := hoH'
  clear hoH'
  have hoJ' := hd (hoJ.out.below hbh)
  clear hoJ
  have hoJ := hoJ'
  clear hoJ'
  have hz18 := hbh.size
  have hB' := hd (hB.out.next hbh)
  clear hB
  have hB := hB'
  clear hB'
  clear hbh
  go_wp2_with fail
  go_ret
  exact ⟨rfl, hB.out⟩
end Go.Proofs.Ytbjilpemckoioaa
