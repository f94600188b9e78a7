/- The walk of the law FnExactApplyTo: it returns true and writes nothing that was there. -/
import Derived.Test.YtbjilpemckoioaaTmL
import Derived.Test.YtbjilpemckoioaaBases
import Derived.Deep.RegionHeld3
import Derived.Deep.Cut
import Derived.Deep.CutBlock
namespace Go.Proofs.Ytbjilpemckoioaa
open Go.RowKit
set_option linter.unusedVariables false
set_option maxRecDepth 100000
theorem TsO.shape {w : World} {B : Nat} {v : Value} {ls : List (List DCell)} {us : List Value} (h : TsO w B v ls us) : ∃ a c, v = .slice a ls.length c := by
  obtain ⟨a, c, e, -⟩ := h.2.1.sl
  rw [List.length_map, h.1] at e
  exact ⟨a, c, e⟩
theorem TsO.lts {w : World} {B : Nat} {v : Value} {ls : List (List DCell)} {us : List Value} (h : TsO w B v ls us) : ∀ j (hj : j < us.length) g, us[j].ownBlock = some g → B ≤ g ∧ g < w.heap.size :=
  fun j hj g hg => (h.2.2.1 j (by rw [← h.1]; exact hj) hj).lt g hg
theorem TsO.kept {w w' : World} {B : Nat} {v : Value} {ls : List (List DCell)} {us : List Value} {row : Option Nat} (h : TsO w B v ls us) (hg : w.grownBy w' row) (h1 : v.ownBlock = none ∨ v.ownBlock ≠ row) (h2 : ∀ j (hj : j < us.length), us[j].ownBlock = none ∨ us[j].ownBlock ≠ row) : TsO w' B v ls us :=
  ⟨h.1, h.2.1.kept hg h1, fun j hj hj' => (h.2.2.1 j hj hj').kept hg (h2 j hj'), h.2.2.2.1, h.2.2.2.2⟩
set_option maxHeartbeats 8000000 in
theorem law_ApplyTo (l0 : List DCell) (v0 : Value) (ls : List (List DCell)) (v1 : Value) (w : World) (hlm0 : l0.length ≤ maxLen) (h0 : Sl w v0 3 (l0.map DCell.enc)) (hok0 : ∀ x ∈ l0, DCell.ok x) (hlm1 : ls.length ≤ maxLen) (h1 : SlQ w v1 ls) (hok1 : ∀ x ∈ ls, x.length ≤ maxLen ∧ ∀ y ∈ x, DCell.ok y) :
    Calls Try.prog 5 #[.agg #[v0], v1] w (LawTrue w) := by
  have hlm1' := hlm1
  unfold maxLen at hlm0
  have hS0 := hd h0
  have hS1 := hd h1
  obtain ⟨a0, c0, rfl, _⟩ := h0
  obtain ⟨us1, aL, cL, -, rfl, -, -⟩ := h1.open
  have hok0 := hd hok0
  have hok1 := hd hok1
  simp only [List.length_map] at *
  go_enter Try.func5, Try.ntmps5
  go_wp2_with fail
  refine (szTerm l0 _ _ _ (by omega) (by omega) hlm0 hok0.out (hS0.out.mono (below_a1 _))).mono ?_
  rintro e w1 ⟨r0, rfl, hr00, hr10, hr20, hb1⟩
  have q0 := keepCell hb1 (show _ = some (.slice a0 l0.length c0) from (by go_simp : World.cell? _ ⟨w.heap.size, 0, none⟩ = _))
  have hB := hd ((below_a1 _).next hb1)
  have hz0 := hb1.size
  have hz00 : w.heap.size + 1 ≤ w1.heap.size := by simp at hz0; omega
  clear hz0 hb1
  by_cases hn0 : r0 < 0
  · go_wp2_with fail
    go_ret
    exact ⟨rfl, hB.out⟩
  have hl0 : l0.length ≤ 1048576 := by have := hr20 (by omega); omega
  have hn0' : 0 ≤ r0 := by omega
  have hsm0 := hd (hr20 hn0').2
  clear hr20 hn0 hlm0
  go_wp2_with fail
  refine (szTermS ls _ _ _ (by omega) (by omega) hlm1' hok1.out (hS1.out.mono hB.out)).mono ?_
  rintro e w1 ⟨r1, rfl, hr01, hr11, hr21, hb1⟩
  replace q0 := keepCell hb1 q0
  have hz1 := hb1.size
  replace hB := hd (hB.out.next hb1)
  clear hb1
  by_cases hn1 : r1 < 0
  · go_wp2_with fail
    go_ret
    exact ⟨rfl, hB.out⟩
  obtain ⟨hx1, hx2, hx3⟩ := hr21 (by omega)
  have hl1 : ls.length ≤ 1048576 := by omega
  have hsum : sumL ls ≤ 1048576 := by omega
  have hll := hd (show ∀ x ∈ ls, x.length ≤ 1000000000 from fun x hx => by
    obtain ⟨i, hi, rfl⟩ := List.mem_iff_getElem.1 hx
    have := (hx3 i hi).1
    omega)
  have hss := hd (show ∀ x ∈ ls, ∀ y ∈ x, y.name.size ≤ 1000000000000 from fun x hx => by
    obtain ⟨i, hi, rfl⟩ := List.mem_iff_getElem.1 hx
    exact small_cells (by omega) (hx3 i hi).2)
  have hn1' : 0 ≤ r1 := by omega
  clear hr21 hlm1 hlm1' hx3
  obtain ⟨b, hbd⟩ : ∃ b, (apR l0 ls).isSome = b := ⟨_, rfl⟩
  obtain ⟨r, hrd⟩ : ∃ r, (apR l0 ls).getD [] = r := ⟨_, rfl⟩
  have hrl : r.length ≤ 30 := by
    rw [← hrd]
    cases hq : apR l0 ls with
    | none => simp
    | some q => exact apR_len hq
  have hr := hd (show apR l0 ls = if b = true then some r else none from by rw [← hbd, ← hrd]; cases apR l0 ls <;> rfl)
  have hr0 := hd (show b = false → r = [] from fun e => by rw [← hbd] at e; rw [← hrd]; cases hq : apR l0 ls with
    | none => rfl
    | some q => rw [hq] at e; cases e)
  clear hbd hrd
  go_wp2_with fail
  refine (toTerm l0 _ _ (by omega) (hS0.out.mono hB.out)).mono ?_
  rintro e ws0 ⟨zs0, rfl, hos0, hbs0⟩
  obtain ⟨as0, cs0, rfl, _⟩ := hos0.sl
  rw [List.length_map] at hos0 ⊢
  have ns0 := hd hos0.lt
  replace hos0 := hd hos0
  replace q0 := keepCell hbs0 q0
  have hz2 := hbs0.size
  replace hB := hd (hB.out.next hbs0)
  clear hbs0
  go_wp2_with fail
  refine (toTermS ls _ _ (by omega) hll.out (hS1.out.mono hB.out)).mono ?_
  rintro e wsT ⟨zsT, ussT, rfl, hosT, hbsT⟩
  obtain ⟨asT, csT, rfl⟩ := hosT.shape
  have nsT := hd hosT.lts
  have msT := hd hosT.2.1.lt
  replace hosT := hd hosT
  replace q0 := keepCell hbsT q0
  replace hos0 := hd (hos0.out.below hbsT)
  have hz3 := hbsT.size
  replace hB := hd (hB.out.next hbsT)
  clear hbsT
  go_wp2_with fail
  refine (ApplyTo_s l0 ls _ _ _ (by omega) (by omega) hll.out (small_cells (by omega) hsm0.out) hss.out hos0.out.sl hosT.out.slt r b hr.out hr0.out).mono ?_
  rintro e wW ⟨zW, rbW, rfl, hoW, hbW⟩
  obtain ⟨aW, cW, rfl, _⟩ := hoW.sl
  rw [List.length_map] at hoW ⊢
  have nW := hd hoW.lt
  replace hoW := hd hoW
  replace q0 := keepCell hbW q0
  replace hos0 := hd (hos0.out.below hbW)
  replace hosT := hd (hosT.out.below hbW)
  have hz4 := hbW.size
  replace hB := hd (hB.out.next hbW)
  clear hbW
  clear hos0 hosT
  go_upto_region 9 with (fail)
  have hal := below_a1 wW (a := .cells #[.slice aW r.length cW] 29)
  replace q0 := keepCell hal q0
  replace hoW := hd (hoW.out.below hal)
  have hz5 := hal.size
  replace hB := hd (hB.out.next hal)
  have hzzW : wW.heap.size + 1 ≤ (wW.alloc (.cells #[.slice aW r.length cW] 29)).heap.size := by simp
  have qbW : (wW.alloc (.cells #[.slice aW r.length cW] 29)).cell? ⟨wW.heap.size, 0, none⟩ = some (.slice aW r.length cW) := by go_simp
  clear hal
  generalize wW.alloc (.cells #[.slice aW r.length cW] 29) = yW at q0 qbW hoW hB hz5 hzzW ⊢
  go_wp2_with fail
  refine (toTerm l0 _ _ (by omega) (hS0.out.mono hB.out)).mono ?_
  rintro e wx0 ⟨zx0, rfl, hox0, hbx0⟩
  obtain ⟨ax0, cx0, rfl, _⟩ := hox0.sl
  rw [List.length_map] at hox0 ⊢
  have nx0 := hd hox0.lt
  replace hox0 := hd hox0
  replace q0 := keepCell hbx0 q0
  replace qbW := keepCell hbx0 qbW
  replace hoW := hd (hoW.out.below hbx0)
  have hz6 := hbx0.size
  replace hB := hd (hB.out.next hbx0)
  clear hbx0
  go_upto_region 10 with (fail)
  have hal := below_a1 wx0 (a := .cells #[.slice ax0 l0.length cx0] 29)
  replace q0 := keepCell hal q0
  replace qbW := keepCell hal qbW
  replace hoW := hd (hoW.out.below hal)
  replace hox0 := hd (hox0.out.below hal)
  have hz7 := hal.size
  replace hB := hd (hB.out.next hal)
  have hzzx0 : wx0.heap.size + 1 ≤ (wx0.alloc (.cells #[.slice ax0 l0.length cx0] 29)).heap.size := by simp
  have qbx0 : (wx0.alloc (.cells #[.slice ax0 l0.length cx0] 29)).cell? ⟨wx0.heap.size, 0, none⟩ = some (.slice ax0 l0.length cx0) := by go_simp
  clear hal
  generalize wx0.alloc (.cells #[.slice ax0 l0.length cx0] 29) = yx0 at q0 qbW qbx0 hoW hox0 hB hz7 hzzx0 ⊢
  go_wp2_with fail
  refine (toTermS ls _ _ (by omega) hll.out (hS1.out.mono hB.out)).mono ?_
  rintro e wxT ⟨zxT, usxT, rfl, hoxT, hbxT⟩
  obtain ⟨axT, cxT, rfl⟩ := hoxT.shape
  have nxT := hd hoxT.lts
  have mxT := hd hoxT.2.1.lt
  replace hoxT := hd hoxT
  replace q0 := keepCell hbxT q0
  replace qbW := keepCell hbxT qbW
  replace qbx0 := keepCell hbxT qbx0
  replace hoW := hd (hoW.out.below hbxT)
  replace hox0 := hd (hox0.out.below hbxT)
  have hz8 := hbxT.size
  replace hB := hd (hB.out.next hbxT)
  clear hbxT
  go_wp2_with fail
  refine (ApplyTo_i l0 ls _ _ _ (by omega) (by omega) hll.out (small_cells (by omega) hsm0.out) hss.out (by intro a n c e; cases e; exact Own.cap hox0.out) hox0.out.sl hoxT.out.slt r b hr.out hr0.out).mono ?_
  rintro e wG ⟨zG, rbG, rfl, hoG, hbG⟩
  obtain ⟨aG, cG, rfl, _⟩ := hoG.sl
  rw [List.length_map] at hoG ⊢
  have nG := hd hoG.lt
  replace hoG := hd hoG
  replace q0 := keepCell hbG q0
  replace qbW := keepCell hbG qbW
  replace qbx0 := keepCell hbG qbx0
  replace hoW := hd (hoW.out.below hbG)
  replace hox0 := hd (hox0.out.below hbG)
  replace hoxT := hd (hoxT.out.below hbG)
  have hz9 := hbG.size
  replace hB := hd (hB.out.next hbG)
  clear hbG
  go_upto_region 12 with (fail)
  have hal := below_a1 wG (a := .cells #[.slice aG r.length cG] 29)
  replace q0 := keepCell hal q0
  replace qbW := keepCell hal qbW
  replace qbx0 := keepCell hal qbx0
  replace hoW := hd (hoW.out.below hal)
  replace hox0 := hd (hox0.out.below hal)
  replace hoxT := hd (hoxT.out.below hal)
  replace hoG := hd (hoG.out.below hal)
  have hz10 := hal.size
  replace hB := hd (hB.out.next hal)
  have hzzG : wG.heap.size + 1 ≤ (wG.alloc (.cells #[.slice aG r.length cG] 29)).heap.size := by simp
  have qbG : (wG.alloc (.cells #[.slice aG r.length cG] 29)).cell? ⟨wG.heap.size, 0, none⟩ = some (.slice aG r.length cG) := by go_simp
  clear hal
  generalize wG.alloc (.cells #[.slice aG r.length cG] 29) = yG at q0 qbW qbx0 qbG hoW hox0 hoxT hoG hB hz10 hzzG ⊢
  go_wp2_with fail
  refine (eqTerm r _ _ _ (by omega) hoG.out.sl hoW.out.sl).mono ?_
  rintro e we ⟨rfl, hbe⟩
  replace q0 := keepCell hbe q0
  replace qbW := keepCell hbe qbW
  replace qbx0 := keepCell hbe qbx0
  replace qbG := keepCell hbe qbG
  replace hoW := hd (hoW.out.below hbe)
  replace hox0 := hd (hox0.out.below hbe)
  replace hoxT := hd (hoxT.out.below hbe)
  replace hoG := hd (hoG.out.below hbe)
  have hz11 := hbe.size
  replace hB := hd (hB.out.next hbe)
  clear hbe
  go_wp2_with fail
  go_region_held3 (fun w' => w'.cell? ⟨w.heap.size, 0, none⟩ = some (.slice a0 l0.length c0) ∧ w'.cell? ⟨wx0.heap.size, 0, none⟩ = some (.slice ax0 l0.length cx0))
    (first | go_keep | (go_split_ands; (repeat' apply And.intro) <;> first | exact keepCell hb8 (by assumption) | exact keepCell hb9 (by assumption)))
    (first
      | (go_at_call 12; refine (toTerm l0 _ _ (by omega) (hS0.out.mono hB.out.drew)).mono ?_; rintro e w8 ⟨v8, rfl, ho8, hb8⟩)
      | (go_at_call 14; refine (eqTerm l0 _ _ _ (by omega) (Own.below (hox0.out.below (Below.refl _ _).drew) hb8).sl ho8.sl).mono ?_; rintro e w9 ⟨rfl, hb9⟩))
  have hb10 := (Below.refl _ _).drew.trans (hb8.next hb9)
  replace q0 := keepCell hb10 q0
  replace qbW := keepCell hb10 qbW
  replace qbx0 := keepCell hb10 qbx0
  replace qbG := keepCell hb10 qbG
  replace hoW := hd (hoW.out.below hb10)
  replace hox0 := hd (hox0.out.below hb10)
  replace hoxT := hd (hoxT.out.below hb10)
  replace hoG := hd (hoG.out.below hb10)
  have hz12 := hb10.size
  replace hB := hd (hB.out.next hb10)
  clear hb8 hb9 ho8 hb10
  go_wp2_with fail
  refine (toTermS ls _ _ (by omega) hll.out (hS1.out.mono hB.out)).mono ?_
  rintro e wyT ⟨zyT, usyT, rfl, hoyT, hbyT⟩
  obtain ⟨ayT, cyT, rfl⟩ := hoyT.shape
  have nyT := hd hoyT.lts
  have myT := hd hoyT.2.1.lt
  replace hoyT := hd hoyT
  replace q0 := keepCell hbyT q0
  replace qbW := keepCell hbyT qbW
  replace qbx0 := keepCell hbyT qbx0
  replace qbG := keepCell hbyT qbG
  replace hoW := hd (hoW.out.below hbyT)
  replace hox0 := hd (hox0.out.below hbyT)
  replace hoxT := hd (hoxT.out.below hbyT)
  replace hoG := hd (hoG.out.below hbyT)
  have hz13 := hbyT.size
  replace hB := hd (hB.out.next hbyT)
  clear hbyT
  go_wp2_with fail
  refine (eqTermS ls _ _ _ (by omega) hll.out hoxT.out.slt.q hoyT.out.slt.q).mono ?_
  rintro e we ⟨rfl, hbe⟩
  replace q0 := keepCell hbe q0
  replace qbW := keepCell hbe qbW
  replace qbx0 := keepCell hbe qbx0
  replace qbG := keepCell hbe qbG
  replace hoW := hd (hoW.out.below hbe)
  replace hox0 := hd (hox0.out.below hbe)
  replace hoxT := hd (hoxT.out.below hbe)
  replace hoG := hd (hoG.out.below hbe)
  replace hoyT := hd (hoyT.out.below hbe)
  have hz14 := hbe.size
  replace hB := hd (hB.out.next hbe)
  clear hbe
  clear hoyT
  go_wp2_with fail
  refine (markTerm _ _ l0.length (by rw [List.length_map]) _ 1 _ (by omega) (by omega) (by omega) hox0.out).mono ?_
  rintro e wm0 ⟨rfl, hom0, hgm0⟩
  clear qbx0
  replace q0 := keepG hgm0 q0 nx0.out (by omega)
  replace qbW := keepG hgm0 qbW nx0.out (by omega)
  replace qbG := keepG hgm0 qbG nx0.out (by omega)
  replace hoW := hd (hoW.out.kept hgm0 (apart nW.out nx0.out (by omega)))
  replace hoG := hd (hoG.out.kept hgm0 (apart nG.out nx0.out (by omega)))
  replace hoxT := hd (hoxT.out.kept hgm0 (apart mxT.out nx0.out (by omega)) (fun j hj => apart (nxT.out j hj) nx0.out (by omega)))
  have hzm0 := hgm0.size
  replace hB := hd (hB.out.grown hgm0 (by have := hB.out.size; omega) (by intro g e; have := nx0.out g e; omega))
  clear hgm0 hom0
  clear hox0
  have hk00 : 1 ≤ 1 + 3 * (l0.length : Int) := by omega
  have hk10 : 1 + 3 * (l0.length : Int) ≤ 100000000 := by omega
  generalize 1 + 3 * (l0.length : Int) = K0 at hk00 hk10 ⊢
  go_wp2_with fail
  refine (markTermS ls _ usxT yx0.heap.size wxT.heap.size K0 _ (by omega) (by omega) (by omega) (by omega) (fun j hj g hg => (nxT.out j hj g hg).2) hoxT.out).mono ?_
  rintro e wm1 ⟨rfl, hmd⟩
  replace q0 := hmd.cell q0 (.inl (by show w.heap.size < yx0.heap.size; omega))
  replace qbW := hmd.cell qbW (.inl (by show wW.heap.size < yx0.heap.size; omega))
  replace qbG := hmd.cell qbG (.inr (by show wxT.heap.size ≤ wG.heap.size; omega))
  replace hoW := hd (hmd.ownR hoW.out (fun g e => .inl (by have := nW.out g e; omega)))
  replace hoG := hd (hmd.ownR hoG.out (fun g e => .inr (by have := nG.out g e; omega)))
  have hzm1 := hmd.size
  replace hB := hd (hB.out.trans (hmd.below (by omega) (by omega)))
  clear hmd
  clear hoxT
  have hk01 : 1 ≤ K0 + 3 * (sumL ls : Int) := by omega
  generalize K0 + 3 * (sumL ls : Int) = K1 at hk01 ⊢
  go_wp2_with fail
  refine (eqTerm r _ _ _ (by omega) hoG.out.sl hoW.out.sl).mono ?_
  rintro e we ⟨rfl, hbe⟩
  replace q0 := keepCell hbe q0
  replace qbW := keepCell hbe qbW
  replace qbG := keepCell hbe qbG
  replace hoW := hd (hoW.out.below hbe)
  replace hoG := hd (hoG.out.below hbe)
  have hz15 := hbe.size
  replace hB := hd (hB.out.next hbe)
  clear hbe
  go_wp2_with fail
  refine (markTermR _ _ r.length (by rw [List.length_map]) _ _ 1 _ (by omega) (by omega) (by omega) hoG.out).mono ?_
  rintro e wmG ⟨rfl, hoH, hgG⟩
  replace q0 := keepG hgG q0 nG.out (by omega)
  replace qbW := keepG hgG qbW nG.out (by omega)
  replace qbG := keepG hgG qbG nG.out (by omega)
  replace hoW := hd (hoW.out.kept hgG (apart nW.out nG.out (by omega)))
  have hzmG := hgG.size
  replace hB := hd (hB.out.grown hgG (by have := hB.out.size; omega) (by intro g e; have := nG.out g e; omega))
  clear hoG hgG
  replace hoH := hd hoH
  have nH := hd hoH.out.lt
  have hm0 : ¬ 1 + 3 * (r.length : Int) < 0 := by omega
  go_wp2_with fail
  refine (heldTerm _ r.length 1 _ (by omega) (by omega) (by omega) hoH.out.sl).mono ?_
  rintro e wh ⟨rfl, hbh⟩
  replace q0 := keepCell hbh q0
  replace qbW := keepCell hbh qbW
  replace qbG := keepCell hbh qbG
  replace hoW := hd (hoW.out.below hbh)
  replace hoH := hd (hoH.out.below hbh)
  have hz16 := hbh.size
  replace hB := hd (hB.out.next hbh)
  clear hbh
  go_wp2_with fail
  refine (toTerm l0 _ _ (by omega) (hS0.out.mono hB.out)).mono ?_
  rintro e wt0 ⟨zt0, rfl, hot0, hbt0⟩
  obtain ⟨at0, ct0, rfl, _⟩ := hot0.sl
  rw [List.length_map] at hot0 ⊢
  have nt0 := hd hot0.lt
  replace hot0 := hd hot0
  replace q0 := keepCell hbt0 q0
  replace qbW := keepCell hbt0 qbW
  replace qbG := keepCell hbt0 qbG
  replace hoW := hd (hoW.out.below hbt0)
  replace hoH := hd (hoH.out.below hbt0)
  have hz17 := hbt0.size
  replace hB := hd (hB.out.next hbt0)
  clear hbt0
  go_wp2_with fail
  refine (toTermS ls _ _ (by omega) hll.out (hS1.out.mono hB.out)).mono ?_
  rintro e wtT ⟨ztT, ustT, rfl, hotT, hbtT⟩
  obtain ⟨atT, ctT, rfl⟩ := hotT.shape
  have ntT := hd hotT.lts
  have mtT := hd hotT.2.1.lt
  replace hotT := hd hotT
  replace q0 := keepCell hbtT q0
  replace qbW := keepCell hbtT qbW
  replace qbG := keepCell hbtT qbG
  replace hoW := hd (hoW.out.below hbtT)
  replace hoH := hd (hoH.out.below hbtT)
  replace hot0 := hd (hot0.out.below hbtT)
  have hz18 := hbtT.size
  replace hB := hd (hB.out.next hbtT)
  clear hbtT
  go_wp2_with fail
  refine (ApplyTo_i l0 ls _ _ _ (by omega) (by omega) hll.out (small_cells (by omega) hsm0.out) hss.out (by intro a n c e; cases e; exact Own.cap hot0.out) hot0.out.sl hotT.out.slt r b hr.out hr0.out).mono ?_
  rintro e wJ ⟨zJ, rbJ, rfl, hoJ, hbJ⟩
  obtain ⟨aJ, cJ, rfl, _⟩ := hoJ.sl
  rw [List.length_map] at hoJ ⊢
  have nJ := hd hoJ.lt
  replace hoJ := hd hoJ
  replace q0 := keepCell hbJ q0
  replace qbW := keepCell hbJ qbW
  replace qbG := keepCell hbJ qbG
  replace hoW := hd (hoW.out.below hbJ)
  replace hoH := hd (hoH.out.below hbJ)
  replace hot0 := hd (hot0.out.below hbJ)
  replace hotT := hd (hotT.out.below hbJ)
  have hz19 := hbJ.size
  replace hB := hd (hB.out.next hbJ)
  clear hbJ
  clear hot0 hotT
  go_upto_region 32 with (fail)
  have hal := below_a1 wJ (a := .cells #[.slice aJ r.length cJ] 29)
  replace q0 := keepCell hal q0
  replace qbW := keepCell hal qbW
  replace qbG := keepCell hal qbG
  replace hoW := hd (hoW.out.below hal)
  replace hoH := hd (hoH.out.below hal)
  replace hoJ := hd (hoJ.out.below hal)
  have hz20 := hal.size
  replace hB := hd (hB.out.next hal)
  have hzzJ : wJ.heap.size + 1 ≤ (wJ.alloc (.cells #[.slice aJ r.length cJ] 29)).heap.size := by simp
  have qbJ : (wJ.alloc (.cells #[.slice aJ r.length cJ] 29)).cell? ⟨wJ.heap.size, 0, none⟩ = some (.slice aJ r.length cJ) := by go_simp
  clear hal
  generalize wJ.alloc (.cells #[.slice aJ r.length cJ] 29) = yJ at q0 qbW qbG qbJ hoW hoH hoJ hB hz20 hzzJ ⊢
  go_wp2_with fail
  refine (eqTerm r _ _ _ (by omega) hoJ.out.sl hoW.out.sl).mono ?_
  rintro e we ⟨rfl, hbe⟩
  replace q0 := keepCell hbe q0
  replace qbW := keepCell hbe qbW
  replace qbG := keepCell hbe qbG
  replace qbJ := keepCell hbe qbJ
  replace hoW := hd (hoW.out.below hbe)
  replace hoH := hd (hoH.out.below hbe)
  replace hoJ := hd (hoJ.out.below hbe)
  have hz21 := hbe.size
  replace hB := hd (hB.out.next hbe)
  clear hbe
  go_wp2_with fail
  refine (heldTerm _ r.length 1 _ (by omega) (by omega) (by omega) hoH.out.sl).mono ?_
  rintro e wh ⟨rfl, hbh⟩
  replace q0 := keepCell hbh q0
  replace qbW := keepCell hbh qbW
  replace qbG := keepCell hbh qbG
  replace qbJ := keepCell hbh qbJ
  replace hoW := hd (hoW.out.below hbh)
  replace hoH := hd (hoH.out.below hbh)
  replace hoJ := hd (hoJ.out.below hbh)
  have hz22 := hbh.size
  replace hB := hd (hB.out.next hbh)
  clear hbh
  go_wp2_with fail
  go_ret
  exact ⟨rfl, hB.out⟩
end Go.Proofs.Ytbjilpemckoioaa
