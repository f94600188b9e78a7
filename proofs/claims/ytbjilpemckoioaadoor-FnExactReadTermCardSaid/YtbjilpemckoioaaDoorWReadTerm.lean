/- The walk of the law FnExactReadTerm: it returns true and writes nothing that was there. -/
import Derived.Test.YtbjilpemckoioaaDoorRd
import Derived.Test.YtbjilpemckoioaaDoorMCell
import Derived.Test.YtbjilpemckoioaaDoorHCell
import Derived.Test.YtbjilpemckoioaaDoorBases
import Derived.Deep.Cut
namespace Go.Proofs.YtbjilpemckoioaaDoor
open Go.RowKit
set_option linter.unusedVariables false
set_option maxRecDepth 100000
theorem rtS_len {s : List UInt8} {l : List DCell} (h : rtS s = some l) : l.length ≤ 30 := by
  obtain ⟨p, _, h⟩ := Option.bind_eq_some_iff.1 h
  split at h
  · rename_i hc
    cases h
    rw [flK_len]; exact hc.2.1
  · cases h
set_option maxHeartbeats 8000000 in
theorem law_ReadTerm (s : ByteArray) (w : World) (hs : s.size ≤ maxLen) :
    Calls Tryd.prog 4 #[.string s] w (LawTrue w) := by
  unfold maxLen at hs
  by_cases hbig : 1048576 < s.size
  · have hbI : (1048576 : Int) < (s.size : Int) := by omega
    go_enter Tryd.func4, Tryd.ntmps4
    go_wp2_with fail
    go_ret
    exact ⟨rfl, Below.refl _ _⟩
  have hbI : ¬ (1048576 : Int) < (s.size : Int) := by omega
  obtain ⟨O, hO⟩ : ∃ O, (if s.size ≤ 200 then rtS s.data.toList else none) = O := ⟨_, rfl⟩
  have hOi : (if s.size ≤ 200 then rtI s.data.toList else none) = O := by
    rw [← hO]
    by_cases h : s.size ≤ 200
    · rw [if_pos h, if_pos h]; exact rt_eq h
    · rw [if_neg h, if_neg h]
  obtain ⟨b, hbd⟩ : ∃ b, O.isSome = b := ⟨_, rfl⟩
  obtain ⟨r, hrd⟩ : ∃ r, O.getD [] = r := ⟨_, rfl⟩
  have hOr : O = if b = true then some r else none := by rw [← hbd, ← hrd]; cases O <;> rfl
  have hrl : r.length ≤ 30 := by
    cases hq : O with
    | none => rw [← hrd, hq]; simp
    | some q =>
      rw [← hrd, hq]
      rw [hq] at hO
      by_cases h : s.size ≤ 200
      · rw [if_pos h] at hO; exact rtS_len hO
      · rw [if_neg h] at hO; cases hO
  have hrs := hd (hO.trans hOr)
  have hri := hd (hOi.trans hOr)
  have hr0 := hd (show b = false → r = [] from fun e => by rw [← hbd] at e; rw [← hrd]; cases hq : O with
    | none => rfl
    | some q => rw [hq] at e; cases e)
  clear hbd hrd hO hOi hOr
  have hB := hd (Below.refl w.heap.size w)
  go_enter Tryd.func4, Tryd.ntmps4
  go_wp2_with fail
  refine (ReadTerm_s s _ (by omega) r b hrs.out hr0.out).mono ?_
  rintro e wW ⟨zW, rbW, rfl, hoW, hbW⟩
  obtain ⟨aW, cW, rfl, _⟩ := hoW.sl
  rw [List.length_map] at hoW ⊢
  have nW := hd hoW.lt
  replace hoW := hd hoW
  have hz1 := hbW.size
  replace hB := hd (hB.out.next hbW)
  clear hbW
  go_upto_region 4 with (fail)
  have hal := below_a1 wW (a := .cells #[.slice aW r.length cW] 30)
  replace hoW := hd (hoW.out.below hal)
  have hz2 := hal.size
  replace hB := hd (hB.out.next hal)
  have hzzW : wW.heap.size + 1 ≤ (wW.alloc (.cells #[.slice aW r.length cW] 30)).heap.size := by simp
  have qbW : (wW.alloc (.cells #[.slice aW r.length cW] 30)).cell? ⟨wW.heap.size, 0, none⟩ = some (.slice aW r.length cW) := by go_simp
  clear hal
  generalize wW.alloc (.cells #[.slice aW r.length cW] 30) = yW at qbW hoW hB hz2 hzzW ⊢
  go_wp2_with fail
  refine (ReadTerm_i s _ (by omega) r b hri.out hr0.out).mono ?_
  rintro e wG ⟨zG, rbG, rfl, hoG, hbG⟩
  obtain ⟨aG, cG, rfl, _⟩ := hoG.sl
  rw [List.length_map] at hoG ⊢
  have nG := hd hoG.lt
  replace hoG := hd hoG
  replace qbW := keepCell hbG qbW
  replace hoW := hd (hoW.out.below hbG)
  have hz3 := hbG.size
  replace hB := hd (hB.out.next hbG)
  clear hbG
  go_upto_region 5 with (fail)
  have hal := below_a1 wG (a := .cells #[.slice aG r.length cG] 30)
  replace qbW := keepCell hal qbW
  replace hoW := hd (hoW.out.below hal)
  replace hoG := hd (hoG.out.below hal)
  have hz4 := hal.size
  replace hB := hd (hB.out.next hal)
  have hzzG : wG.heap.size + 1 ≤ (wG.alloc (.cells #[.slice aG r.length cG] 30)).heap.size := by simp
  have qbG : (wG.alloc (.cells #[.slice aG r.length cG] 30)).cell? ⟨wG.heap.size, 0, none⟩ = some (.slice aG r.length cG) := by go_simp
  clear hal
  generalize wG.alloc (.cells #[.slice aG r.length cG] 30) = yG at qbW qbG hoW hoG hB hz4 hzzG ⊢
  go_wp2_with fail
  refine (eqTerm r _ _ _ (by omega) hoG.out.sl hoW.out.sl).mono ?_
  rintro e we ⟨rfl, hbe⟩
  replace qbW := keepCell hbe qbW
  replace qbG := keepCell hbe qbG
  replace hoW := hd (hoW.out.below hbe)
  replace hoG := hd (hoG.out.below hbe)
  have hz5 := hbe.size
  replace hB := hd (hB.out.next hbe)
  clear hbe
  go_wp2_with fail
  refine (markTermR _ _ r.length (by rw [List.length_map]) _ _ 1 _ (by omega) (by omega) (by omega) hoG.out).mono ?_
  rintro e wmG ⟨rfl, hoH, hgG⟩
  replace qbW := keepG hgG qbW nG.out (by omega)
  replace qbG := keepG hgG qbG nG.out (by omega)
  replace hoW := hd (hoW.out.kept hgG (apart nW.out nG.out (by omega)))
  have hzmG := hgG.size
  replace hB := hd (hB.out.grown hgG (by have := hB.out.size; omega) (by intro g e; have := nG.out g e; omega))
  clear hoG hgG
  replace hoH := hd hoH
  have nH := hd hoH.out.lt
  have hm0 : ¬ 1 + 3 * (r.length : Int) < 0 := by omega
  go_wp2_with fail
  refine (heldTerm _ r.length 1 _ (by omega) (by omega) (by omega) hoH.out.sl).mono ?_
  rintro e wh ⟨rfl, hbh⟩
  replace qbW := keepCell hbh qbW
  replace qbG := keepCell hbh qbG
  replace hoW := hd (hoW.out.below hbh)
  replace hoH := hd (hoH.out.below hbh)
  have hz6 := hbh.size
  replace hB := hd (hB.out.next hbh)
  clear hbh
  go_wp2_with fail
  refine (ReadTerm_i s _ (by omega) r b hri.out hr0.out).mono ?_
  rintro e wJ ⟨zJ, rbJ, rfl, hoJ, hbJ⟩
  obtain ⟨aJ, cJ, rfl, _⟩ := hoJ.sl
  rw [List.length_map] at hoJ ⊢
  have nJ := hd hoJ.lt
  replace hoJ := hd hoJ
  replace qbW := keepCell hbJ qbW
  replace qbG := keepCell hbJ qbG
  replace hoW := hd (hoW.out.below hbJ)
  replace hoH := hd (hoH.out.below hbJ)
  have hz7 := hbJ.size
  replace hB := hd (hB.out.next hbJ)
  clear hbJ
  go_upto_region 16 with (fail)
  have hal := below_a1 wJ (a := .cells #[.slice aJ r.length cJ] 30)
  replace qbW := keepCell hal qbW
  replace qbG := keepCell hal qbG
  replace hoW := hd (hoW.out.below hal)
  replace hoH := hd (hoH.out.below hal)
  replace hoJ := hd (hoJ.out.below hal)
  have hz8 := hal.size
  replace hB := hd (hB.out.next hal)
  have hzzJ : wJ.heap.size + 1 ≤ (wJ.alloc (.cells #[.slice aJ r.length cJ] 30)).heap.size := by simp
  have qbJ : (wJ.alloc (.cells #[.slice aJ r.length cJ] 30)).cell? ⟨wJ.heap.size, 0, none⟩ = some (.slice aJ r.length cJ) := by go_simp
  clear hal
  generalize wJ.alloc (.cells #[.slice aJ r.length cJ] 30) = yJ at qbW qbG qbJ hoW hoH hoJ hB hz8 hzzJ ⊢
  go_wp2_with fail
  refine (eqTerm r _ _ _ (by omega) hoJ.out.sl hoW.out.sl).mono ?_
  rintro e we ⟨rfl, hbe⟩
  replace qbW := keepCell hbe qbW
  replace qbG := keepCell hbe qbG
  replace qbJ := keepCell hbe qbJ
  replace hoW := hd (hoW.out.below hbe)
  replace hoH := hd (hoH.out.below hbe)
  replace hoJ := hd (hoJ.out.below hbe)
  have hz9 := hbe.size
  replace hB := hd (hB.out.next hbe)
  clear hbe
  go_wp2_with fail
  refine (heldTerm _ r.length 1 _ (by omega) (by omega) (by omega) hoH.out.sl).mono ?_
  rintro e wh ⟨rfl, hbh⟩
  replace qbW := keepCell hbh qbW
  replace qbG := keepCell hbh qbG
  replace qbJ := keepCell hbh qbJ
  replace hoW := hd (hoW.out.below hbh)
  replace hoH := hd (hoH.out.below hbh)
  replace hoJ := hd (hoJ.out.below hbh)
  have hz10 := hbh.size
  replace hB := hd (hB.out.next hbh)
  clear hbh
  go_wp2_with fail
  go_ret
  exact ⟨rfl, hB.out⟩
end Go.Proofs.YtbjilpemckoioaaDoor
