/- The walk of the law FnExactJoinOf: it returns true and writes nothing that was there. -/
import Derived.Test.YtobahkjbadamhaaJoinOI
import Derived.Test.YtobahkjbadamhaaJoinOS
import Derived.Test.YtobahkjbadamhaaHType
import Derived.Test.YtobahkjbadamhaaMType
import Derived.Test.YtobahkjbadamhaaBases
import Derived.Deep.RegionHeld3
import Derived.Deep.Cut
import Derived.Deep.CutBlock
namespace Go.Proofs.Ytobahkjbadamhaa
open Go.RowKit
set_option linter.unusedVariables false
set_option maxRecDepth 100000
theorem box_new (w : World) (v : Value) (E : TypeId) : Box1 (w.alloc (.cells #[v] E)) w.heap.size v := ⟨by go_simp, by go_simp⟩
theorem alloc_swap {w : World} {o p : Obj} {a : Nat} {u : Value} (h : (w.alloc o).cell? ⟨a, 0, none⟩ = some u) (ha : a < w.heap.size) : (w.alloc p).cell? ⟨a, 0, none⟩ = some u := by
  rw [(below_a1 w).cell ha] at h ⊢; exact h
theorem keepSet {w : World} {a b o : Nat} {u v : Value} (h : w.cell? ⟨a, 0, none⟩ = some u) (hne : a ≠ b) : (w.setCell ⟨b, o, none⟩ v).cell? ⟨a, 0, none⟩ = some u :=
  (grownBy_setCell w ⟨b, o, none⟩ v).cell h (by simpa using hne)
theorem ownR_weaken {w : World} {B B2 E sz : Nat} {v : Value} {rows : List (List Value)} {rb : Option Nat} (h : OwnR w B E sz v rows rb) (hB : B2 ≤ B) : OwnR w B2 E sz v rows rb := by
  rcases h with ⟨h1, h⟩ | h
  · exact .inl ⟨h1, h.weaken hB⟩
  · exact .inr h
set_option maxHeartbeats 8000000 in
theorem law_JoinOf (l0 : List DType) (v0 : Value) (l1 : List DType) (v1 : Value) (w : World) (hlm0 : l0.length ≤ maxLen) (h0 : Sl w v0 6 (l0.map DType.enc)) (hok0 : ∀ x ∈ l0, DType.ok x) (hlm1 : l1.length ≤ maxLen) (h1 : Sl w v1 6 (l1.map DType.enc)) (hok1 : ∀ x ∈ l1, DType.ok x) :
    Calls Try.prog 4 #[.agg #[v0], .agg #[v1]] w (LawTrue w) := by
  unfold maxLen at *
  have hS0 := hd h0
  obtain ⟨a0, c0, rfl, _⟩ := h0
  have hok0 := hd hok0
  have hS1 := hd h1
  obtain ⟨a1, c1, rfl, _⟩ := h1
  have hok1 := hd hok1
  simp only [List.length_map] at *
  go_enter Try.func4, Try.ntmps4
  go_wp2_with fail
  refine (szSchema l0 _ _ _ (by omega) (by omega) hlm0 hok0.out (hS0.out.mono (below_a2 _))).mono ?_
  rintro e w1 ⟨r0, rfl, hr00, hr10, hr20, hb1⟩
  have q0 := keepCell hb1 (show _ = some (.slice a0 l0.length c0) from (by go_simp : World.cell? _ ⟨w.heap.size, 0, none⟩ = _))
  have q1 := keepCell hb1 (show _ = some (.slice a1 l1.length c1) from (by go_simp : World.cell? _ ⟨w.heap.size + 1, 0, none⟩ = _))
  have hB := hd ((below_a2 _).next hb1)
  have hz0 := hb1.size
  have hz00 : w.heap.size + 2 ≤ w1.heap.size := by simp at hz0; omega
  clear hz0 hb1
  by_cases hn0 : r0 < 0
  · go_wp2_with fail
    go_ret
    exact ⟨rfl, hB.out⟩
  have hl0 : l0.length ≤ 1048576 := by have := hr20 (by omega); omega
  have hn0' : 0 ≤ r0 := by omega
  have hsm0 := hd (hr20 hn0').2
  clear hr20 hn0 hlm0
  go_wp2_with fail
  refine (szSchema l1 _ _ _ (by omega) (by omega) hlm1 hok1.out (hS1.out.mono hB.out)).mono ?_
  rintro e w1 ⟨r1, rfl, hr01, hr11, hr21, hb1⟩
  have q0' := keepCell hb1 q0
  clear q0
  have q0 := q0'
  clear q0'
  have q1' := keepCell hb1 q1
  clear q1
  have q1 := q1'
  clear q1'
  have hz1 := hb1.size
  have hB' := hd (hB.out.next hb1)
  clear hB
  have hB := hB'
  clear hB'
  clear hb1
  by_cases hn1 : r1 < 0
  · go_wp2_with fail
    go_ret
    exact ⟨rfl, hB.out⟩
  have hl1 : l1.length ≤ 1048576 := by have := hr21 (by omega); omega
  have hn1' : 0 ≤ r1 := by omega
  have hsm1 := hd (hr21 hn1').2
  clear hr21 hn1 hlm1
  go_wp2_with fail
  obtain ⟨b, r, hr, hr30⟩ := jnP_ex l0 l1
  replace hr := hd hr
  have hrl : r.length ≤ 1000000 := by omega
  go_upto_region 8 with (fail)
  go_cut [6, 7] from 27 to 34 (fun p d wy => ∃ bX aX cX rbX, p = .pointer (some ⟨bX, 0, none⟩) ∧ d = .bool b ∧ bX < wy.heap.size ∧ wy.cell? ⟨bX, 0, none⟩ = some (.slice aX r.length cX) ∧ Hd (OwnR wy w1.heap.size 71 6 (.slice aX r.length cX) (r.map DType.enc) rbX) ∧ Hd (Below w1.heap.size w1 wy))
  case first =>
    have q0a := fun o => keepCell (below_a1 w1 (a := o)) q0
    have q1a := fun o => keepCell (below_a1 w1 (a := o)) q1
    go_region_held3 (fun w' => w'.cell? ⟨w.heap.size, 0, none⟩ = some (.slice a0 l0.length c0) ∧ w'.cell? ⟨w.heap.size + 1, 0, none⟩ = some (.slice a1 l1.length c1))
      (first | go_keep | (go_split_ands; (repeat' apply And.intro) <;> first | exact keepCell hbs0.out (by assumption) | exact keepCell hbs1.out (by assumption) | exact keepCell hbW.out (by assumption) | exact keepCell (below_a1 _) (by assumption) | exact alloc_swap (by assumption) (by omega) | exact keepSet (by assumption) (by omega) | (go_simp; done)))
      (first
      | (go_at_call 21; refine (JoinOf_s l0 l1 _ _ _ (by omega) (by omega) (small_types hsm0.out) (small_typesJ (by omega) hsm1.out) (by (repeat (first | exact hos0.out.sl | refine Sl.mono ?_ hbs1.out | refine Sl.mono ?_ (below_a1 _))); done) (by (repeat (first | exact hos1.out.sl | refine Sl.mono ?_ hbs0.out | refine Sl.mono ?_ (below_a1 _))); done) b r hr.out).mono ?_; rintro e wW ⟨zW, rbW, rfl, hoW, hbW⟩; obtain ⟨aW, cW, rfl, _⟩ := hoW.sl; rw [List.length_map] at hoW ⊢; replace hoW := hd hoW; have q0W := keepCell hbW (show World.cell? _ ⟨w.heap.size, 0, none⟩ = some (.slice a0 l0.length c0) from (by first | exact q0s0 | exact keepCell (below_a1 _) q0s0 | exact q0s1 | exact keepCell (below_a1 _) q0s1)); have q0Wa := fun o => keepCell (below_a1 wW (a := o)) q0W; have q1W := keepCell hbW (show World.cell? _ ⟨w.heap.size + 1, 0, none⟩ = some (.slice a1 l1.length c1) from (by first | exact q1s0 | exact keepCell (below_a1 _) q1s0 | exact q1s1 | exact keepCell (below_a1 _) q1s1)); have q1Wa := fun o => keepCell (below_a1 wW (a := o)) q1W; have kW := hd (fun b v h => And.intro (Box1.below (b := b) (v := v) h hbW) h.lt); (first | (have QQ := kW.out _ _ (ks1.out _ _ (ks0.out _ _ (box_new w1 _ _).drew)); have Q1 := QQ.1.1; have Q2 := QQ.1.2; have Q3 := hd QQ.2; clear QQ) | (have QQ := kW.out _ _ (ks1.out _ _ (box_new ws0 _ _)); have Q1 := QQ.1.1; have Q2 := QQ.1.2; have Q3 := hd QQ.2; clear QQ) | (have QQ := kW.out _ _ (box_new ws1 _ _); have Q1 := QQ.1.1; have Q2 := QQ.1.2; have Q3 := hd QQ.2; clear QQ) | (have QQ := kW.out _ _ (ks0.out _ _ (ks1.out _ _ (box_new w1 _ _).drew)); have Q1 := QQ.1.1; have Q2 := QQ.1.2; have Q3 := hd QQ.2; clear QQ) | (have QQ := kW.out _ _ (ks0.out _ _ (box_new ws1 _ _)); have Q1 := QQ.1.1; have Q2 := QQ.1.2; have Q3 := hd QQ.2; clear QQ) | (have QQ := kW.out _ _ (box_new ws0 _ _); have Q1 := QQ.1.1; have Q2 := QQ.1.2; have Q3 := hd QQ.2; clear QQ) | skip); replace hbW := hd hbW; have hzW := (show Below w1.heap.size w1 wW from (by (repeat (first | exact Below.refl _ _ | refine Below.drew ?_ | refine Below.next ?_ (below_a1 _) | refine Below.next ?_ hbs0.out | refine Below.next ?_ hbs1.out | refine Below.next ?_ hbW.out)); done)).size)
      | (go_at_call 16; refine (toSchema l0 _ _ (by omega) (hS0.out.mono (hB.out.next (by (repeat (first | exact Below.refl _ _ | refine Below.drew ?_ | refine Below.next ?_ (below_a1 _) | refine Below.next ?_ hbs1.out)); done)))).mono ?_; rintro e ws0 ⟨zs0, rfl, hos0, hbs0⟩; obtain ⟨as0, cs0, rfl, _⟩ := hos0.sl; rw [List.length_map] at hos0 ⊢; replace hos0 := hd hos0; have q0s0 := keepCell hbs0 (show World.cell? _ ⟨w.heap.size, 0, none⟩ = some (.slice a0 l0.length c0) from (by first | exact q0 | exact keepCell (below_a1 _) q0 | exact q0s1 | exact keepCell (below_a1 _) q0s1)); have q1s0 := keepCell hbs0 (show World.cell? _ ⟨w.heap.size + 1, 0, none⟩ = some (.slice a1 l1.length c1) from (by first | exact q1 | exact keepCell (below_a1 _) q1 | exact q1s1 | exact keepCell (below_a1 _) q1s1)); have q0s0a := fun o => keepCell (below_a1 ws0 (a := o)) q0s0; have q1s0a := fun o => keepCell (below_a1 ws0 (a := o)) q1s0; have ks0 := hd (fun b v h => Box1.below (b := b) (v := v) h hbs0); replace hbs0 := hd hbs0; have hzs0 := (show Below w1.heap.size w1 ws0 from (by (repeat (first | exact Below.refl _ _ | refine Below.drew ?_ | refine Below.next ?_ (below_a1 _) | refine Below.next ?_ hbs0.out | refine Below.next ?_ hbs1.out)); done)).size)
      | (go_at_call 16; refine (toSchema l1 _ _ (by omega) (hS1.out.mono (hB.out.next (by (repeat (first | exact Below.refl _ _ | refine Below.drew ?_ | refine Below.next ?_ (below_a1 _) | refine Below.next ?_ hbs0.out)); done)))).mono ?_; rintro e ws1 ⟨zs1, rfl, hos1, hbs1⟩; obtain ⟨as1, cs1, rfl, _⟩ := hos1.sl; rw [List.length_map] at hos1 ⊢; replace hos1 := hd hos1; have q0s1 := keepCell hbs1 (show World.cell? _ ⟨w.heap.size, 0, none⟩ = some (.slice a0 l0.length c0) from (by first | exact q0 | exact keepCell (below_a1 _) q0 | exact q0s0 | exact keepCell (below_a1 _) q0s0)); have q1s1 := keepCell hbs1 (show World.cell? _ ⟨w.heap.size + 1, 0, none⟩ = some (.slice a1 l1.length c1) from (by first | exact q1 | exact keepCell (below_a1 _) q1 | exact q1s0 | exact keepCell (below_a1 _) q1s0)); have q0s1a := fun o => keepCell (below_a1 ws1 (a := o)) q0s1; have q1s1a := fun o => keepCell (below_a1 ws1 (a := o)) q1s1; have ks1 := hd (fun b v h => Box1.below (b := b) (v := v) h hbs1); replace hbs1 := hd hbs1; have hzs1 := (show Below w1.heap.size w1 ws1 from (by (repeat (first | exact Below.refl _ _ | refine Below.drew ?_ | refine Below.next ?_ (below_a1 _) | refine Below.next ?_ hbs1.out | refine Below.next ?_ hbs0.out)); done)).size))
    all_goals go_wp2_with fail
    all_goals go_meet
    all_goals first
      | (refine ⟨wW.heap.size, aW, cW, rbW, rfl, rfl, ?_, ?_, ?_, ?_⟩; (focus (simp; done)); (focus (go_simp; done)); exact hd ((ownR_weaken hoW.out (by first | omega | exact Nat.le_refl _ | (simp; done) | (simp; omega))).below (below_a1 _)); exact hd (by (repeat (first | exact Below.refl _ _ | refine Below.drew ?_ | refine Below.next ?_ (below_a1 _) | refine Below.next ?_ hbs0.out | refine Below.next ?_ hbs1.out | refine Below.next ?_ hbW.out)); done))
      | (refine ⟨ws0.heap.size, aW, cW, rbW, rfl, rfl, ?_, ?_, ?_, ?_⟩; exact Nat.lt_of_lt_of_le (World.block_lt_of_cell? wW _ Q1) (grownBy_setCell wW _ _).size; (focus (go_simp; done)); exact hd ((ownR_weaken hoW.out (by first | omega | exact Nat.le_refl _ | (simp; done) | (simp; omega))).kept (grownBy_setCell _ _ _) (apart hoW.out.lt (r2 := some (ws0.heap.size)) (c := ws0.heap.size) (d := ws0.heap.size + 1) (fun g e => by cases e; exact ⟨Nat.le_refl _, Nat.lt_succ_self _⟩) (.inr (Nat.succ_le_of_lt Q3.out)))); exact hd (Below.setCell (by (repeat (first | exact Below.refl _ _ | refine Below.drew ?_ | refine Below.next ?_ (below_a1 _) | refine Below.next ?_ hbs0.out | refine Below.next ?_ hbs1.out | refine Below.next ?_ hbW.out)); done) (by first | exact Nat.le_refl _ | (simp; omega)) _))
      | (refine ⟨ws1.heap.size, aW, cW, rbW, rfl, rfl, ?_, ?_, ?_, ?_⟩; exact Nat.lt_of_lt_of_le (World.block_lt_of_cell? wW _ Q1) (grownBy_setCell wW _ _).size; (focus (go_simp; done)); exact hd ((ownR_weaken hoW.out (by first | omega | exact Nat.le_refl _ | (simp; done) | (simp; omega))).kept (grownBy_setCell _ _ _) (apart hoW.out.lt (r2 := some (ws1.heap.size)) (c := ws1.heap.size) (d := ws1.heap.size + 1) (fun g e => by cases e; exact ⟨Nat.le_refl _, Nat.lt_succ_self _⟩) (.inr (Nat.succ_le_of_lt Q3.out)))); exact hd (Below.setCell (by (repeat (first | exact Below.refl _ _ | refine Below.drew ?_ | refine Below.next ?_ (below_a1 _) | refine Below.next ?_ hbs0.out | refine Below.next ?_ hbs1.out | refine Below.next ?_ hbW.out)); done) (by first | exact Nat.le_refl _ | (simp; omega)) _))
      | (refine ⟨w1.heap.size, aW, cW, rbW, rfl, rfl, ?_, ?_, ?_, ?_⟩; exact Nat.lt_of_lt_of_le (World.block_lt_of_cell? wW _ Q1) (grownBy_setCell wW _ _).size; (focus (go_simp; done)); exact hd ((ownR_weaken hoW.out (by first | omega | exact Nat.le_refl _ | (simp; done) | (simp; omega))).kept (grownBy_setCell _ _ _) (apart hoW.out.lt (r2 := some (w1.heap.size)) (c := w1.heap.size) (d := w1.heap.size + 1) (fun g e => by cases e; exact ⟨Nat.le_refl _, Nat.lt_succ_self _⟩) (.inr (Nat.succ_le_of_lt Q3.out)))); exact hd (Below.setCell (by (repeat (first | exact Below.refl _ _ | refine Below.drew ?_ | refine Below.next ?_ (below_a1 _) | refine Below.next ?_ hbs0.out | refine Below.next ?_ hbs1.out | refine Below.next ?_ hbW.out)); done) (by first | exact Nat.le_refl _ | (simp; omega)) _))
  case rest =>
    obtain ⟨bW, aW, cW, rbW, rfl, rfl, hblW, qbW, hoW, hcb⟩ := hcut
    obtain ⟨yW, hyW⟩ : ∃ y, y = wc := ⟨_, rfl⟩
    subst hyW
    have nW := hd hoW.out.lt
    have q0' := keepCell hcb.out q0
    clear q0
    have q0 := q0'
    clear q0'
    have q1' := keepCell hcb.out q1
    clear q1
    have q1 := q1'
    clear q1'
    have hz2 := hcb.out.size
    have hB' := hd (hB.out.next hcb.out)
    clear hB
    have hB := hB'
    clear hB'
    clear hcb
    go_wp2_with fail
    refine (toSchema l0 _ _ (by omega) (hS0.out.mono hB.out)).mono ?_
    rintro e wx0 ⟨zx0, rfl, hox0, hbx0⟩
    obtain ⟨ax0, cx0, rfl, _⟩ := hox0.sl
    rw [List.length_map] at hox0 ⊢
    have nx0 := hd hox0.lt
    have hox0 := hd hox0
    have q0' := keepCell hbx0 q0
    clear q0
    have q0 := q0'
    clear q0'
    have q1' := keepCell hbx0 q1
    clear q1
    have q1 := q1'
    clear q1'
    have qbW' := keepCell hbx0 qbW
    clear qbW
    have qbW := qbW'
    clear qbW'
    have hoW' := hd (hoW.out.below hbx0)
    clear hoW
    have hoW := hoW'
    clear hoW'
    have hz3 := hbx0.size
    have hB' := hd (hB.out.next hbx0)
    clear hB
    have hB := hB'
    clear hB'
    clear hbx0
    go_upto_region 10 with (fail)
    have hal := below_a1 wx0 (a := .cells #[.slice ax0 l0.length cx0] 28)
    have q0' := keepCell hal q0
    clear q0
    have q0 := q0'
    clear q0'
    have q1' := keepCell hal q1
    clear q1
    have q1 := q1'
    clear q1'
    have qbW' := keepCell hal qbW
    clear qbW
    have qbW := qbW'
    clear qbW'
    have hoW' := hd (hoW.out.below hal)
    clear hoW
    have hoW := hoW'
    clear hoW'
    have hox0' := hd (hox0.out.below hal)
    clear hox0
    have hox0 := hox0'
    clear hox0'
    have hz4 := hal.size
    have hB' := hd (hB.out.next hal)
    clear hB
    have hB := hB'
    clear hB'
    have hzzx0 : wx0.heap.size + 1 ≤ (wx0.alloc (.cells #[.slice ax0 l0.length cx0] 28)).heap.size := by simp
    have qbx0 : (wx0.alloc (.cells #[.slice ax0 l0.length cx0] 28)).cell? ⟨wx0.heap.size, 0, none⟩ = some (.slice ax0 l0.length cx0) := by go_simp
    clear hal
    generalize wx0.alloc (.cells #[.slice ax0 l0.length cx0] 28) = yx0 at q0 q1 qbW qbx0 hoW hox0 hB hz4 hzzx0 ⊢
    go_wp2_with fail
    refine (toSchema l1 _ _ (by omega) (hS1.out.mono hB.out)).mono ?_
    rintro e wx1 ⟨zx1, rfl, hox1, hbx1⟩
    obtain ⟨ax1, cx1, rfl, _⟩ := hox1.sl
    rw [List.length_map] at hox1 ⊢
    have nx1 := hd hox1.lt
    have hox1 := hd hox1
    have q0' := keepCell hbx1 q0
    clear q0
    have q0 := q0'
    clear q0'
    have q1' := keepCell hbx1 q1
    clear q1
    have q1 := q1'
    clear q1'
    have qbW' := keepCell hbx1 qbW
    clear qbW
    have qbW := qbW'
    clear qbW'
    have qbx0' := keepCell hbx1 qbx0
    clear qbx0
    have qbx0 := qbx0'
    clear qbx0'
    have hoW' := hd (hoW.out.below hbx1)
    clear hoW
    have hoW := hoW'
    clear hoW'
    have hox0' := hd (hox0.out.below hbx1)
    clear hox0
    have hox0 := hox0'
    clear hox0'
    have hz5 := hbx1.size
    have hB' := hd (hB.out.next hbx1)
    clear hB
    have hB := hB'
    clear hB'
    clear hbx1
    go_upto_region 11 with (fail)
    have hal := below_a1 wx1 (a := .cells #[.slice ax1 l1.length cx1] 28)
    have q0' := keepCell hal q0
    clear q0
    have q0 := q0'
    clear q0'
    have q1' := keepCell hal q1
    clear q1
    have q1 := q1'
    clear q1'
    have qbW' := keepCell hal qbW
    clear qbW
    have qbW := qbW'
    clear qbW'
    have qbx0' := keepCell hal qbx0
    clear qbx0
    have qbx0 := qbx0'
    clear qbx0'
    have hoW' := hd (hoW.out.below hal)
    clear hoW
    have hoW := hoW'
    clear hoW'
    have hox0' := hd (hox0.out.below hal)
    clear hox0
    have hox0 := hox0'
    clear hox0'
    have hox1' := hd (hox1.out.below hal)
    clear hox1
    have hox1 := hox1'
    clear hox1'
    have hz6 := hal.size
    have hB' := hd (hB.out.next hal)
    clear hB
    have hB := hB'
    clear hB'
    have hzzx1 : wx1.heap.size + 1 ≤ (wx1.alloc (.cells #[.slice ax1 l1.length cx1] 28)).heap.size := by simp
    have qbx1 : (wx1.alloc (.cells #[.slice ax1 l1.length cx1] 28)).cell? ⟨wx1.heap.size, 0, none⟩ = some (.slice ax1 l1.length cx1) := by go_simp
    clear hal
    generalize wx1.alloc (.cells #[.slice ax1 l1.length cx1] 28) = yx1 at q0 q1 qbW qbx0 qbx1 hoW hox0 hox1 hB hz6 hzzx1 ⊢
    go_wp2_with fail
    refine (JoinOf_i l0 l1 _ _ _ (by omega) (by omega) (small_types hsm0.out) (small_typesJ (by omega) hsm1.out) hox0.out.sl hox1.out.sl b r hr.out).mono ?_
    rintro e wG ⟨zG, rbG, rfl, hoG, hbG⟩
    obtain ⟨aG, cG, rfl, _⟩ := hoG.sl
    rw [List.length_map] at hoG ⊢
    have nG := hd hoG.lt
    have hoG := hd hoG
    have q0' := keepCell hbG q0
    clear q0
    have q0 := q0'
    clear q0'
    have q1' := keepCell hbG q1
    clear q1
    have q1 := q1'
    clear q1'
    have qbW' := keepCell hbG qbW
    clear qbW
    have qbW := qbW'
    clear qbW'
    have qbx0' := keepCell hbG qbx0
    clear qbx0
    have qbx0 := qbx0'
    clear qbx0'
    have qbx1' := keepCell hbG qbx1
    clear qbx1
    have qbx1 := qbx1'
    clear qbx1'
    have hoW' := hd (hoW.out.below hbG)
    clear hoW
    have hoW := hoW'
    clear hoW'
    have hox0' := hd (hox0.out.below hbG)
    clear hox0
    have hox0 := hox0'
    clear hox0'
    have hox1' := hd (hox1.out.below hbG)
    clear hox1
    have hox1 := hox1'
    clear hox1'
    have hz7 := hbG.size
    have hB' := hd (hB.out.next hbG)
    clear hB
    have hB := hB'
    clear hB'
    clear hbG
    go_upto_region 12 with (fail)
    have hal := below_a1 wG (a := .cells #[.slice aG r.length cG] 28)
    have q0' := keepCell hal q0
    clear q0
    have q0 := q0'
    clear q0'
    have q1' := keepCell hal q1
    clear q1
    have q1 := q1'
    clear q1'
    have qbW' := keepCell hal qbW
    clear qbW
    have qbW := qbW'
    clear qbW'
    have qbx0' := keepCell hal qbx0
    clear qbx0
    have qbx0 := qbx0'
    clear qbx0'
    have qbx1' := keepCell hal qbx1
    clear qbx1
    have qbx1 := qbx1'
    clear qbx1'
    have hoW' := hd (hoW.out.below hal)
    clear hoW
    have hoW := hoW'
    clear hoW'
    have hox0' := hd (hox0.out.below hal)
    clear hox0
    have hox0 := hox0'
    clear hox0'
    have hox1' := hd (hox1.out.below hal)
    clear hox1
    have hox1 := hox1'
    clear hox1'
    have hoG' := hd (hoG.out.below hal)
    clear hoG
    have hoG := hoG'
    clear hoG'
    have hz8 := hal.size
    have hB' := hd (hB.out.next hal)
    clear hB
    have hB := hB'
    clear hB'
    have hzzG : wG.heap.size + 1 ≤ (wG.alloc (.cells #[.slice aG r.length cG] 28)).heap.size := by simp
    have qbG : (wG.alloc (.cells #[.slice aG r.length cG] 28)).cell? ⟨wG.heap.size, 0, none⟩ = some (.slice aG r.length cG) := by go_simp
    clear hal
    generalize wG.alloc (.cells #[.slice aG r.length cG] 28) = yG at q0 q1 qbW qbx0 qbx1 qbG hoW hox0 hox1 hoG hB hz8 hzzG ⊢
    go_wp2_with fail
    refine (eqSchema r _ _ _ (by omega) hoG.out.sl hoW.out.sl).mono ?_
    rintro e we ⟨rfl, hbe⟩
    have q0' := keepCell hbe q0
    clear q0
    have q0 := q0'
    clear q0'
    have q1' := keepCell hbe q1
    clear q1
    have q1 := q1'
    clear q1'
    have qbW' := keepCell hbe qbW
    clear qbW
    have qbW := qbW'
    clear qbW'
    have qbx0' := keepCell hbe qbx0
    clear qbx0
    have qbx0 := qbx0'
    clear qbx0'
    have qbx1' := keepCell hbe qbx1
    clear qbx1
    have qbx1 := qbx1'
    clear qbx1'
    have qbG' := keepCell hbe qbG
    clear qbG
    have qbG := qbG'
    clear qbG'
    have hoW' := hd (hoW.out.below hbe)
    clear hoW
    have hoW := hoW'
    clear hoW'
    have hox0' := hd (hox0.out.below hbe)
    clear hox0
    have hox0 := hox0'
    clear hox0'
    have hox1' := hd (hox1.out.below hbe)
    clear hox1
    have hox1 := hox1'
    clear hox1'
    have hoG' := hd (hoG.out.below hbe)
    clear hoG
    have hoG := hoG'
    clear hoG'
    have hz9 := hbe.size
    have hB' := hd (hB.out.next hbe)
    clear hB
    have hB := hB'
    clear hB'
    clear hbe
    go_wp2_with fail
    go_region_held3 (fun w' => w'.cell? ⟨w.heap.size, 0, none⟩ = some (.slice a0 l0.length c0) ∧ w'.cell? ⟨wx0.heap.size, 0, none⟩ = some (.slice ax0 l0.length cx0))
      (first | go_keep | (go_split_ands; (repeat' apply And.intro) <;> first | exact keepCell hb8 (by assumption) | exact keepCell hb9 (by assumption)))
      (first
        | (go_at_call 16; refine (toSchema l0 _ _ (by omega) (hS0.out.mono hB.out.drew)).mono ?_; rintro e w8 ⟨v8, rfl, ho8, hb8⟩)
        | (go_at_call 18; refine (eqSchema l0 _ _ _ (by omega) (Own.below (hox0.out.below (Below.refl _ _).drew) hb8).sl ho8.sl).mono ?_; rintro e w9 ⟨rfl, hb9⟩))
    have hb10 := (Below.refl _ _).drew.trans (hb8.next hb9)
    have q0' := keepCell hb10 q0
    clear q0
    have q0 := q0'
    clear q0'
    have q1' := keepCell hb10 q1
    clear q1
    have q1 := q1'
    clear q1'
    have qbW' := keepCell hb10 qbW
    clear qbW
    have qbW := qbW'
    clear qbW'
    have qbx0' := keepCell hb10 qbx0
    clear qbx0
    have qbx0 := qbx0'
    clear qbx0'
    have qbx1' := keepCell hb10 qbx1
    clear qbx1
    have qbx1 := qbx1'
    clear qbx1'
    have qbG' := keepCell hb10 qbG
    clear qbG
    have qbG := qbG'
    clear qbG'
    have hoW' := hd (hoW.out.below hb10)
    clear hoW
    have hoW := hoW'
    clear hoW'
    have hox0' := hd (hox0.out.below hb10)
    clear hox0
    have hox0 := hox0'
    clear hox0'
    have hox1' := hd (hox1.out.below hb10)
    clear hox1
    have hox1 := hox1'
    clear hox1'
    have hoG' := hd (hoG.out.below hb10)
    clear hoG
    have hoG := hoG'
    clear hoG'
    have hz10 := hb10.size
    have hB' := hd (hB.out.next hb10)
    clear hB
    have hB := hB'
    clear hB'
    clear hb8 hb9 ho8 hb10
    go_wp2_with fail
    go_region_held3 (fun w' => w'.cell? ⟨w.heap.size + 1, 0, none⟩ = some (.slice a1 l1.length c1) ∧ w'.cell? ⟨wx1.heap.size, 0, none⟩ = some (.slice ax1 l1.length cx1))
      (first | go_keep | (go_split_ands; (repeat' apply And.intro) <;> first | exact keepCell hb8 (by assumption) | exact keepCell hb9 (by assumption)))
      (first
        | (go_at_call 16; refine (toSchema l1 _ _ (by omega) (hS1.out.mono hB.out.drew)).mono ?_; rintro e w8 ⟨v8, rfl, ho8, hb8⟩)
        | (go_at_call 18; refine (eqSchema l1 _ _ _ (by omega) (Own.below (hox1.out.below (Below.refl _ _).drew) hb8).sl ho8.sl).mono ?_; rintro e w9 ⟨rfl, hb9⟩))
    have hb10 := (Below.refl _ _).drew.trans (hb8.next hb9)
    have q0' := keepCell hb10 q0
    clear q0
    have q0 := q0'
    clear q0'
    have q1' := keepCell hb10 q1
    clear q1
    have q1 := q1'
    clear q1'
    have qbW' := keepCell hb10 qbW
    clear qbW
    have qbW := qbW'
    clear qbW'
    have qbx0' := keepCell hb10 qbx0
    clear qbx0
    have qbx0 := qbx0'
    clear qbx0'
    have qbx1' := keepCell hb10 qbx1
    clear qbx1
    have qbx1 := qbx1'
    clear qbx1'
    have qbG' := keepCell hb10 qbG
    clear qbG
    have qbG := qbG'
    clear qbG'
    have hoW' := hd (hoW.out.below hb10)
    clear hoW
    have hoW := hoW'
    clear hoW'
    have hox0' := hd (hox0.out.below hb10)
    clear hox0
    have hox0 := hox0'
    clear hox0'
    have hox1' := hd (hox1.out.below hb10)
    clear hox1
    have hox1 := hox1'
    clear hox1'
    have hoG' := hd (hoG.out.below hb10)
    clear hoG
    have hoG := hoG'
    clear hoG'
    have hz11 := hb10.size
    have hB' := hd (hB.out.next hb10)
    clear hB
    have hB := hB'
    clear hB'
    clear hb8 hb9 ho8 hb10
    go_wp2_with fail
    refine (markSchema _ _ l0.length (by rw [List.length_map]) _ 1 _ (by omega) (by omega) (by omega) hox0.out).mono ?_
    rintro e wm0 ⟨rfl, hom0, hgm0⟩
    have q0' := keepG hgm0 q0 nx0.out (by omega)
    clear q0
    have q0 := q0'
    clear q0'
    have q1' := keepG hgm0 q1 nx0.out (by omega)
    clear q1
    have q1 := q1'
    clear q1'
    have qbW' := keepG hgm0 qbW nx0.out (by omega)
    clear qbW
    have qbW := qbW'
    clear qbW'
    have qbx0' := keepG hgm0 qbx0 nx0.out (by omega)
    clear qbx0
    have qbx0 := qbx0'
    clear qbx0'
    have qbx1' := keepG hgm0 qbx1 nx0.out (by omega)
    clear qbx1
    have qbx1 := qbx1'
    clear qbx1'
    have qbG' := keepG hgm0 qbG nx0.out (by omega)
    clear qbG
    have qbG := qbG'
    clear qbG'
    have hoW' := hd (hoW.out.kept hgm0 (apart nW.out nx0.out (by omega)))
    clear hoW
    have hoW := hoW'
    clear hoW'
    have hox1' := hd (hox1.out.kept hgm0 (apart nx1.out nx0.out (by omega)))
    clear hox1
    have hox1 := hox1'
    clear hox1'
    have hoG' := hd (hoG.out.kept hgm0 (apart nG.out nx0.out (by omega)))
    clear hoG
    have hoG := hoG'
    clear hoG'
    have hz12 := hgm0.size
    have hB' := hd (hB.out.grown hgm0 (by have := hB.out.size; omega) (by intro g e; have := nx0.out g e; omega))
    clear hB
    have hB := hB'
    clear hB'
    clear qbx0
    clear hgm0 hom0 hox0
    have hk00 : 1 ≤ 1 + 6 * (l0.length : Int) := by omega
    have hk10 : 1 + 6 * (l0.length : Int) ≤ 100000000 := by omega
    generalize 1 + 6 * (l0.length : Int) = K0 at hk00 hk10 ⊢
    go_wp2_with fail
    refine (markSchema _ _ l1.length (by rw [List.length_map]) _ K0 _ (by omega) (by omega) (by omega) hox1.out).mono ?_
    rintro e wm1 ⟨rfl, hom1, hgm1⟩
    have q0' := keepG hgm1 q0 nx1.out (by omega)
    clear q0
    have q0 := q0'
    clear q0'
    have q1' := keepG hgm1 q1 nx1.out (by omega)
    clear q1
    have q1 := q1'
    clear q1'
    have qbW' := keepG hgm1 qbW nx1.out (by omega)
    clear qbW
    have qbW := qbW'
    clear qbW'
    have qbx1' := keepG hgm1 qbx1 nx1.out (by omega)
    clear qbx1
    have qbx1 := qbx1'
    clear qbx1'
    have qbG' := keepG hgm1 qbG nx1.out (by omega)
    clear qbG
    have qbG := qbG'
    clear qbG'
    have hoW' := hd (hoW.out.kept hgm1 (apart nW.out nx1.out (by omega)))
    clear hoW
    have hoW := hoW'
    clear hoW'
    have hoG' := hd (hoG.out.kept hgm1 (apart nG.out nx1.out (by omega)))
    clear hoG
    have hoG := hoG'
    clear hoG'
    have hz13 := hgm1.size
    have hB' := hd (hB.out.grown hgm1 (by have := hB.out.size; omega) (by intro g e; have := nx1.out g e; omega))
    clear hB
    have hB := hB'
    clear hB'
    clear qbx1
    clear hgm1 hom1 hox1
    have hk01 : 1 ≤ K0 + 6 * (l1.length : Int) := by omega
    have hk11 : K0 + 6 * (l1.length : Int) ≤ 200000000 := by omega
    generalize K0 + 6 * (l1.length : Int) = K1 at hk01 hk11 ⊢
    go_wp2_with fail
    refine (eqSchema r _ _ _ (by omega) hoG.out.sl hoW.out.sl).mono ?_
    rintro e we ⟨rfl, hbe⟩
    have q0' := keepCell hbe q0
    clear q0
    have q0 := q0'
    clear q0'
    have q1' := keepCell hbe q1
    clear q1
    have q1 := q1'
    clear q1'
    have qbW' := keepCell hbe qbW
    clear qbW
    have qbW := qbW'
    clear qbW'
    have qbG' := keepCell hbe qbG
    clear qbG
    have qbG := qbG'
    clear qbG'
    have hoW' := hd (hoW.out.below hbe)
    clear hoW
    have hoW := hoW'
    clear hoW'
    have hoG' := hd (hoG.out.below hbe)
    clear hoG
    have hoG := hoG'
    clear hoG'
    have hz14 := hbe.size
    have hB' := hd (hB.out.next hbe)
    clear hB
    have hB := hB'
    clear hB'
    clear hbe
    go_wp2_with fail
    refine (markSchemaR _ _ r.length (by rw [List.length_map]) _ _ 1 _ (by omega) (by omega) (by omega) hoG.out).mono ?_
    rintro e wmG ⟨rfl, hoH, hgG⟩
    have q0' := keepG hgG q0 nG.out (by omega)
    clear q0
    have q0 := q0'
    clear q0'
    have q1' := keepG hgG q1 nG.out (by omega)
    clear q1
    have q1 := q1'
    clear q1'
    have qbW' := keepG hgG qbW nG.out (by omega)
    clear qbW
    have qbW := qbW'
    clear qbW'
    have qbG' := keepG hgG qbG nG.out (by omega)
    clear qbG
    have qbG := qbG'
    clear qbG'
    have hoW' := hd (hoW.out.kept hgG (apart nW.out nG.out (by omega)))
    clear hoW
    have hoW := hoW'
    clear hoW'
    have hz15 := hgG.size
    have hB' := hd (hB.out.grown hgG (by have := hB.out.size; omega) (by intro g e; have := nG.out g e; omega))
    clear hB
    have hB := hB'
    clear hB'
    clear hoG hgG
    have hoH := hd hoH
    have nH := hd hoH.out.lt
    have hm0 : ¬ 1 + 6 * (r.length : Int) < 0 := by omega
    go_wp2_with fail
    refine (heldSchema _ r.length 1 _ (by omega) (by omega) (by omega) hoH.out.sl).mono ?_
    rintro e wh ⟨rfl, hbh⟩
    have q0' := keepCell hbh q0
    clear q0
    have q0 := q0'
    clear q0'
    have q1' := keepCell hbh q1
    clear q1
    have q1 := q1'
    clear q1'
    have qbW' := keepCell hbh qbW
    clear qbW
    have qbW := qbW'
    clear qbW'
    have qbG' := keepCell hbh qbG
    clear qbG
    have qbG := qbG'
    clear qbG'
    have hoW' := hd (hoW.out.below hbh)
    clear hoW
    have hoW := hoW'
    clear hoW'
    have hoH' := hd (hoH.out.below hbh)
    clear hoH
    have hoH := hoH'
    clear hoH'
    have hz16 := hbh.size
    have hB' := hd (hB.out.next hbh)
    clear hB
    have hB := hB'
    clear hB'
    clear hbh
    go_wp2_with fail
    go_upto_region 31 with (fail)
    go_cut [15, 16] from 94 to 101 (fun p d wy => ∃ bX aX cX rbX, p = .pointer (some ⟨bX, 0, none⟩) ∧ d = .bool b ∧ bX < wy.heap.size ∧ wy.cell? ⟨bX, 0, none⟩ = some (.slice aX r.length cX) ∧ Hd (OwnR wy wh.heap.size 71 6 (.slice aX r.length cX) (r.map DType.enc) rbX) ∧ Hd (Below wh.heap.size wh wy))
    case first =>
      have q0a := fun o => keepCell (below_a1 wh (a := o)) q0
      have q1a := fun o => keepCell (below_a1 wh (a := o)) q1
      go_region_held3 (fun w' => w'.cell? ⟨w.heap.size, 0, none⟩ = some (.slice a0 l0.length c0) ∧ w'.cell? ⟨w.heap.size + 1, 0, none⟩ = some (.slice a1 l1.length c1))
        (first | go_keep | (go_split_ands; (repeat' apply And.intro) <;> first | exact keepCell hbt0.out (by assumption) | exact keepCell hbt1.out (by assumption) | exact keepCell hbJ.out (by assumption) | exact keepCell (below_a1 _) (by assumption) | exact alloc_swap (by assumption) (by omega) | exact keepSet (by assumption) (by omega) | (go_simp; done)))
        (first
        | (go_at_call 22; refine (JoinOf_i l0 l1 _ _ _ (by omega) (by omega) (small_types hsm0.out) (small_typesJ (by omega) hsm1.out) (by (repeat (first | exact hot0.out.sl | refine Sl.mono ?_ hbt1.out | refine Sl.mono ?_ (below_a1 _))); done) (by (repeat (first | exact hot1.out.sl | refine Sl.mono ?_ hbt0.out | refine Sl.mono ?_ (below_a1 _))); done) b r hr.out).mono ?_; rintro e wJ ⟨zJ, rbJ, rfl, hoJ, hbJ⟩; obtain ⟨aJ, cJ, rfl, _⟩ := hoJ.sl; rw [List.length_map] at hoJ ⊢; replace hoJ := hd hoJ; have q0J := keepCell hbJ (show World.cell? _ ⟨w.heap.size, 0, none⟩ = some (.slice a0 l0.length c0) from (by first | exact q0t0 | exact keepCell (below_a1 _) q0t0 | exact q0t1 | exact keepCell (below_a1 _) q0t1)); have q0Ja := fun o => keepCell (below_a1 wJ (a := o)) q0J; have q1J := keepCell hbJ (show World.cell? _ ⟨w.heap.size + 1, 0, none⟩ = some (.slice a1 l1.length c1) from (by first | exact q1t0 | exact keepCell (below_a1 _) q1t0 | exact q1t1 | exact keepCell (below_a1 _) q1t1)); have q1Ja := fun o => keepCell (below_a1 wJ (a := o)) q1J; have kJ := hd (fun b v h => And.intro (Box1.below (b := b) (v := v) h hbJ) h.lt); (first | (have QQ := kJ.out _ _ (kt1.out _ _ (kt0.out _ _ (box_new wh _ _).drew)); have Q1 := QQ.1.1; have Q2 := QQ.1.2; have Q3 := hd QQ.2; clear QQ) | (have QQ := kJ.out _ _ (kt1.out _ _ (box_new wt0 _ _)); have Q1 := QQ.1.1; have Q2 := QQ.1.2; have Q3 := hd QQ.2; clear QQ) | (have QQ := kJ.out _ _ (box_new wt1 _ _); have Q1 := QQ.1.1; have Q2 := QQ.1.2; have Q3 := hd QQ.2; clear QQ) | (have QQ := kJ.out _ _ (kt0.out _ _ (kt1.out _ _ (box_new wh _ _).drew)); have Q1 := QQ.1.1; have Q2 := QQ.1.2; have Q3 := hd QQ.2; clear QQ) | (have QQ := kJ.out _ _ (kt0.out _ _ (box_new wt1 _ _)); have Q1 := QQ.1.1; have Q2 := QQ.1.2; have Q3 := hd QQ.2; clear QQ) | (have QQ := kJ.out _ _ (box_new wt0 _ _); have Q1 := QQ.1.1; have Q2 := QQ.1.2; have Q3 := hd QQ.2; clear QQ) | skip); replace hbJ := hd hbJ; have hzJ := (show Below wh.heap.size wh wJ from (by (repeat (first | exact Below.refl _ _ | refine Below.drew ?_ | refine Below.next ?_ (below_a1 _) | refine Below.next ?_ hbt0.out | refine Below.next ?_ hbt1.out | refine Below.next ?_ hbJ.out)); done)).size)
        | (go_at_call 16; refine (toSchema l0 _ _ (by omega) (hS0.out.mono (hB.out.next (by (repeat (first | exact Below.refl _ _ | refine Below.drew ?_ | refine Below.next ?_ (below_a1 _) | refine Below.next ?_ hbt1.out)); done)))).mono ?_; rintro e wt0 ⟨zt0, rfl, hot0, hbt0⟩; obtain ⟨at0, ct0, rfl, _⟩ := hot0.sl; rw [List.length_map] at hot0 ⊢; replace hot0 := hd hot0; have q0t0 := keepCell hbt0 (show World.cell? _ ⟨w.heap.size, 0, none⟩ = some (.slice a0 l0.length c0) from (by first | exact q0 | exact keepCell (below_a1 _) q0 | exact q0t1 | exact keepCell (below_a1 _) q0t1)); have q1t0 := keepCell hbt0 (show World.cell? _ ⟨w.heap.size + 1, 0, none⟩ = some (.slice a1 l1.length c1) from (by first | exact q1 | exact keepCell (below_a1 _) q1 | exact q1t1 | exact keepCell (below_a1 _) q1t1)); have q0t0a := fun o => keepCell (below_a1 wt0 (a := o)) q0t0; have q1t0a := fun o => keepCell (below_a1 wt0 (a := o)) q1t0; have kt0 := hd (fun b v h => Box1.below (b := b) (v := v) h hbt0); replace hbt0 := hd hbt0; have hzt0 := (show Below wh.heap.size wh wt0 from (by (repeat (first | exact Below.refl _ _ | refine Below.drew ?_ | refine Below.next ?_ (below_a1 _) | refine Below.next ?_ hbt0.out | refine Below.next ?_ hbt1.out)); done)).size)
        | (go_at_call 16; refine (toSchema l1 _ _ (by omega) (hS1.out.mono (hB.out.next (by (repeat (first | exact Below.refl _ _ | refine Below.drew ?_ | refine Below.next ?_ (below_a1 _) | refine Below.next ?_ hbt0.out)); done)))).mono ?_; rintro e wt1 ⟨zt1, rfl, hot1, hbt1⟩; obtain ⟨at1, ct1, rfl, _⟩ := hot1.sl; rw [List.length_map] at hot1 ⊢; replace hot1 := hd hot1; have q0t1 := keepCell hbt1 (show World.cell? _ ⟨w.heap.size, 0, none⟩ = some (.slice a0 l0.length c0) from (by first | exact q0 | exact keepCell (below_a1 _) q0 | exact q0t0 | exact keepCell (below_a1 _) q0t0)); have q1t1 := keepCell hbt1 (show World.cell? _ ⟨w.heap.size + 1, 0, none⟩ = some (.slice a1 l1.length c1) from (by first | exact q1 | exact keepCell (below_a1 _) q1 | exact q1t0 | exact keepCell (below_a1 _) q1t0)); have q0t1a := fun o => keepCell (below_a1 wt1 (a := o)) q0t1; have q1t1a := fun o => keepCell (below_a1 wt1 (a := o)) q1t1; have kt1 := hd (fun b v h => Box1.below (b := b) (v := v) h hbt1); replace hbt1 := hd hbt1; have hzt1 := (show Below wh.heap.size wh wt1 from (by (repeat (first | exact Below.refl _ _ | refine Below.drew ?_ | refine Below.next ?_ (below_a1 _) | refine Below.next ?_ hbt1.out | refine Below.next ?_ hbt0.out)); done)).size))
      all_goals go_wp2_with fail
      all_goals go_meet
      all_goals first
        | (refine ⟨wJ.heap.size, aJ, cJ, rbJ, rfl, rfl, ?_, ?_, ?_, ?_⟩; (focus (simp; done)); (focus (go_simp; done)); exact hd ((ownR_weaken hoJ.out (by first | omega | exact Nat.le_refl _ | (simp; done) | (simp; omega))).below (below_a1 _)); exact hd (by (repeat (first | exact Below.refl _ _ | refine Below.drew ?_ | refine Below.next ?_ (below_a1 _) | refine Below.next ?_ hbt0.out | refine Below.next ?_ hbt1.out | refine Below.next ?_ hbJ.out)); done))
        | (refine ⟨wt0.heap.size, aJ, cJ, rbJ, rfl, rfl, ?_, ?_, ?_, ?_⟩; exact Nat.lt_of_lt_of_le (World.block_lt_of_cell? wJ _ Q1) (grownBy_setCell wJ _ _).size; (focus (go_simp; done)); exact hd ((ownR_weaken hoJ.out (by first | omega | exact Nat.le_refl _ | (simp; done) | (simp; omega))).kept (grownBy_setCell _ _ _) (apart hoJ.out.lt (r2 := some (wt0.heap.size)) (c := wt0.heap.size) (d := wt0.heap.size + 1) (fun g e => by cases e; exact ⟨Nat.le_refl _, Nat.lt_succ_self _⟩) (.inr (Nat.succ_le_of_lt Q3.out)))); exact hd (Below.setCell (by (repeat (first | exact Below.refl _ _ | refine Below.drew ?_ | refine Below.next ?_ (below_a1 _) | refine Below.next ?_ hbt0.out | refine Below.next ?_ hbt1.out | refine Below.next ?_ hbJ.out)); done) (by first | exact Nat.le_refl _ | (simp; omega)) _))
        | (refine ⟨wt1.heap.size, aJ, cJ, rbJ, rfl, rfl, ?_, ?_, ?_, ?_⟩; exact Nat.lt_of_lt_of_le (World.block_lt_of_cell? wJ _ Q1) (grownBy_setCell wJ _ _).size; (focus (go_simp; done)); exact hd ((ownR_weaken hoJ.out (by first | omega | exact Nat.le_refl _ | (simp; done) | (simp; omega))).kept (grownBy_setCell _ _ _) (apart hoJ.out.lt (r2 := some (wt1.heap.size)) (c := wt1.heap.size) (d := wt1.heap.size + 1) (fun g e => by cases e; exact ⟨Nat.le_refl _, Nat.lt_succ_self _⟩) (.inr (Nat.succ_le_of_lt Q3.out)))); exact hd (Below.setCell (by (repeat (first | exact Below.refl _ _ | refine Below.drew ?_ | refine Below.next ?_ (below_a1 _) | refine Below.next ?_ hbt0.out | refine Below.next ?_ hbt1.out | refine Below.next ?_ hbJ.out)); done) (by first | exact Nat.le_refl _ | (simp; omega)) _))
        | (refine ⟨wh.heap.size, aJ, cJ, rbJ, rfl, rfl, ?_, ?_, ?_, ?_⟩; exact Nat.lt_of_lt_of_le (World.block_lt_of_cell? wJ _ Q1) (grownBy_setCell wJ _ _).size; (focus (go_simp; done)); exact hd ((ownR_weaken hoJ.out (by first | omega | exact Nat.le_refl _ | (simp; done) | (simp; omega))).kept (grownBy_setCell _ _ _) (apart hoJ.out.lt (r2 := some (wh.heap.size)) (c := wh.heap.size) (d := wh.heap.size + 1) (fun g e => by cases e; exact ⟨Nat.le_refl _, Nat.lt_succ_self _⟩) (.inr (Nat.succ_le_of_lt Q3.out)))); exact hd (Below.setCell (by (repeat (first | exact Below.refl _ _ | refine Below.drew ?_ | refine Below.next ?_ (below_a1 _) | refine Below.next ?_ hbt0.out | refine Below.next ?_ hbt1.out | refine Below.next ?_ hbJ.out)); done) (by first | exact Nat.le_refl _ | (simp; omega)) _))
    case rest =>
      obtain ⟨bJ, aJ, cJ, rbJ, rfl, rfl, hblJ, qbJ, hoJ, hcb⟩ := hcut
      obtain ⟨yJ, hyJ⟩ : ∃ y, y = wc := ⟨_, rfl⟩
      subst hyJ
      have nJ := hd hoJ.out.lt
      have q0' := keepCell hcb.out q0
      clear q0
      have q0 := q0'
      clear q0'
      have q1' := keepCell hcb.out q1
      clear q1
      have q1 := q1'
      clear q1'
      have qbW' := keepCell hcb.out qbW
      clear qbW
      have qbW := qbW'
      clear qbW'
      have qbG' := keepCell hcb.out qbG
      clear qbG
      have qbG := qbG'
      clear qbG'
      have hoW' := hd (hoW.out.below hcb.out)
      clear hoW
      have hoW := hoW'
      clear hoW'
      have hoH' := hd (hoH.out.below hcb.out)
      clear hoH
      have hoH := hoH'
      clear hoH'
      have hz17 := hcb.out.size
      have hB' := hd (hB.out.next hcb.out)
      clear hB
      have hB := hB'
      clear hB'
      clear hcb
      go_wp2_with fail
      refine (eqSchema r _ _ _ (by omega) hoJ.out.sl hoW.out.sl).mono ?_
      rintro e we ⟨rfl, hbe⟩
      have q0' := keepCell hbe q0
      clear q0
      have q0 := q0'
      clear q0'
      have q1' := keepCell hbe q1
      clear q1
      have q1 := q1'
      clear q1'
      have qbW' := keepCell hbe qbW
      clear qbW
      have qbW := qbW'
      clear qbW'
      have qbG' := keepCell hbe qbG
      clear qbG
      have qbG := qbG'
      clear qbG'
      have qbJ' := keepCell hbe qbJ
      clear qbJ
      have qbJ := qbJ'
      clear qbJ'
      have hoW' := hd (hoW.out.below hbe)
      clear hoW
      have hoW := hoW'
      clear hoW'
      have hoH' := hd (hoH.out.below hbe)
      clear hoH
      have hoH := hoH'
      clear hoH'
      have hoJ' := hd (hoJ.out.below hbe)
      clear hoJ
      have hoJ := hoJ'
      clear hoJ'
      have hz18 := hbe.size
      have hB' := hd (hB.out.next hbe)
      clear hB
      have hB := hB'
      clear hB'
      clear hbe
      go_wp2_with fail
      refine (heldSchema _ r.length 1 _ (by omega) (by omega) (by omega) hoH.out.sl).mono ?_
      rintro e wh ⟨rfl, hbh⟩
      have q0' := keepCell hbh q0
      clear q0
      have q0 := q0'
      clear q0'
      have q1' := keepCell hbh q1
      clear q1
      have q1 := q1'
      clear q1'
      have qbW' := keepCell hbh qbW
      clear qbW
      have qbW := qbW'
      clear qbW'
      have qbG' := keepCell hbh qbG
      clear qbG
      have qbG := qbG'
      clear qbG'
      have qbJ' := keepCell hbh qbJ
      clear qbJ
      have qbJ := qbJ'
      clear qbJ'
      have hoW' := hd (hoW.out.below hbh)
      clear hoW
      have hoW := hoW'
      clear hoW'
      have hoH' := hd (hoH.out.below hbh)
      clear hoH
      have hoH := hoH'
      clear hoH'
      have hoJ' := hd (hoJ.out.below hbh)
      clear hoJ
      have hoJ := hoJ'
      clear hoJ'
      have hz19 := hbh.size
      have hB' := hd (hB.out.next hbh)
      clear hB
      have hB := hB'
      clear hB'
      clear hbh
      go_wp2_with fail
      go_ret
      exact ⟨rfl, hB.out⟩
end Go.Proofs.Ytobahkjbadamhaa
