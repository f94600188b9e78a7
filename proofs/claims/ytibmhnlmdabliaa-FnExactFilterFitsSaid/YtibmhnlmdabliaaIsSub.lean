/- IsSubtype and CanRead of both sides. -/
import Derived.Test.YtibmhnlmdabliaaSubS
import Derived.Deep.RegionHeld3
namespace Go.Proofs.Ytibmhnlmdabliaa
open Go.RowKit
set_option linter.unusedVariables false
set_option maxRecDepth 100000
theorem small_typesB {l : List DType} {b : Int} (hb : b ≤ 1048576) (h : SmallType b l.length l) : ∀ x ∈ l, x.name.size ≤ 1000000000000 := by
  intro x hx
  obtain ⟨i, hi, rfl⟩ := List.mem_iff_getElem.1 hx
  have := h i hi hi
  omega
def isP (la lb : List DType) (r : Bool × Bool) : Prop := (∀ ta tb, treeOf la ta → treeOf lb tb → goodP la → goodP lb → r = (subB tb ta, true)) ∧ (¬ (goodP la ∧ goodP lb) → r = (false, false))
theorem isP_ex (la lb : List DType) : ∃ r, isP la lb r := by
  by_cases h : goodP la ∧ goodP lb
  · obtain ⟨ta, hta⟩ := good_tree h.1
    obtain ⟨tb, htb⟩ := good_tree h.2
    exact ⟨(subB tb ta, true), fun ta' tb' h1 h2 _ _ => by rw [treeOf_uniq h1 hta, treeOf_uniq h2 htb], fun g => absurd h g⟩
  · exact ⟨(false, false), fun _ _ _ _ h1 h2 => absurd ⟨h1, h2⟩ h, fun _ => rfl⟩
def BB2Post (r : Bool × Bool) (w : World) (e : Ending) (w' : World) : Prop := e = .returned (.tuple #[.bool r.1, .bool r.2]) ∧ Below w.heap.size w w'
set_option maxHeartbeats 6400000 in
theorem IsSubtype_i (l0 l1 : List DType) (v0 v1 : Value) (w : World) (hl0 : l0.length ≤ 1000000000) (hl1 : l1.length ≤ 1000000000) (hs0 : ∀ x ∈ l0, x.name.size ≤ 1000000000000) (hs1 : ∀ x ∈ l1, x.name.size ≤ 1000000000000) (h0 : Sl w v0 6 (l0.map DType.enc)) (h1 : Sl w v1 6 (l1.map DType.enc)) (r : Bool × Bool) (hr : isP l0 l1 r) :
    Calls Try.prog 50 #[.agg #[v0], .agg #[v1]] w (BB2Post r w) := by
  obtain ⟨g0, hg0⟩ := boolOf (goodP l0)
  obtain ⟨g1, hg1⟩ := boolOf (goodP l1)
  have k0 := hd (fun w' (hbb : Below w.heap.size w w') => kindOf_i l0 v0 w' (by omega) hs0 (h0.mono hbb) g0 hg0)
  have k1 := hd (fun w' (hbb : Below w.heap.size w w') => kindOf_i l1 v1 w' (by omega) hs1 (h1.mono hbb) g1 hg1)
  obtain ⟨a0, c0, rfl, -⟩ := h0
  obtain ⟨a1, c1, rfl, -⟩ := h1
  simp only [List.length_map] at k0 k1 ⊢
  replace hr := hd hr
  replace hg0 := hd hg0
  replace hg1 := hd hg1
  have hB := hd (below_a2 w (a := .cells #[.slice a0 l0.length c0] 66) (b := .cells #[.slice a1 l1.length c1] 66))
  cases g0 with
  | false =>
    cases g1 with
    | false =>
      have hres := hd (hr.out.2 (fun q => absurd (hg0.out.2 q.1) (by simp)))
      go_enter Try.func50, Try.ntmps50
      go_wp2_with fail
      go_region_held3 (fun w' => w'.cell? ⟨w.heap.size, 0, none⟩ = some (.slice a0 l0.length c0) ∧ w'.cell? ⟨w.heap.size + 1, 0, none⟩ = some (.slice a1 l1.length c1))
        (first | go_keep | (go_split_ands; (repeat' apply And.intro) <;> first | exact keepCell hbA (by assumption) | exact keepCell hbB (by assumption) | exact keepCell hb9 (by assumption)))
        (first | (go_at_call_of 99 (Value.slice a0 l0.length c0); refine (k0.out _ (by first | exact hB.out.drew | exact hB.out.drew.next hbB)).mono ?_; intro e wA hp; obtain ⟨rfl, hbA⟩ := KoPost_f hp; clear hp) | (go_at_call_of 99 (Value.slice a1 l1.length c1); refine (k1.out _ (by first | exact hB.out.drew | exact hB.out.drew.next hbA)).mono ?_; intro e wB hp; obtain ⟨rfl, hbB⟩ := KoPost_f hp; clear hp))
      all_goals
        have hb10 := hd (hB.out.drew.next (hbA.next hbB))
        go_wp2_with fail
        go_ret2
        exact ⟨by rw [hres.out]; rfl, hb10.out⟩
    | true =>
      have hres := hd (hr.out.2 (fun q => absurd (hg0.out.2 q.1) (by simp)))
      go_enter Try.func50, Try.ntmps50
      go_wp2_with fail
      go_region_held3 (fun w' => w'.cell? ⟨w.heap.size, 0, none⟩ = some (.slice a0 l0.length c0) ∧ w'.cell? ⟨w.heap.size + 1, 0, none⟩ = some (.slice a1 l1.length c1))
        (first | go_keep | (go_split_ands; (repeat' apply And.intro) <;> first | exact keepCell hbA (by assumption) | exact keepCell hbB (by assumption) | exact keepCell hb9 (by assumption)))
        (first | (go_at_call_of 99 (Value.slice a0 l0.length c0); refine (k0.out _ (by first | exact hB.out.drew | exact hB.out.drew.next hbB)).mono ?_; intro e wA hp; obtain ⟨rfl, hbA⟩ := KoPost_f hp; clear hp) | (go_at_call_of 99 (Value.slice a1 l1.length c1); refine (k1.out _ (by first | exact hB.out.drew | exact hB.out.drew.next hbA)).mono ?_; intro e wB hp; obtain ⟨tB, vB, rfl, htB, hrB, hbB⟩ := KoPost_t hp; clear hp; obtain ⟨bpB, _, _, _, rfl, -⟩ := hrB.open; replace hrB := hd hrB; have hsB := Nat.le_refl wB.heap.size; (try replace hrA := hd (hrA.out.below (Nat.le_refl _) hbB)); (try replace hsA := Nat.le_trans hsA hbB.size); replace htB := hd htB))
      all_goals
        have hb10 := hd (hB.out.drew.next (hbA.next hbB))
        go_wp2_with fail
        go_ret2
        exact ⟨by rw [hres.out]; rfl, hb10.out⟩
  | true =>
    cases g1 with
    | false =>
      have hres := hd (hr.out.2 (fun q => absurd (hg1.out.2 q.2) (by simp)))
      go_enter Try.func50, Try.ntmps50
      go_wp2_with fail
      go_region_held3 (fun w' => w'.cell? ⟨w.heap.size, 0, none⟩ = some (.slice a0 l0.length c0) ∧ w'.cell? ⟨w.heap.size + 1, 0, none⟩ = some (.slice a1 l1.length c1))
        (first | go_keep | (go_split_ands; (repeat' apply And.intro) <;> first | exact keepCell hbA (by assumption) | exact keepCell hbB (by assumption) | exact keepCell hb9 (by assumption)))
        (first | (go_at_call_of 99 (Value.slice a0 l0.length c0); refine (k0.out _ (by first | exact hB.out.drew | exact hB.out.drew.next hbB)).mono ?_; intro e wA hp; obtain ⟨tA, vA, rfl, htA, hrA, hbA⟩ := KoPost_t hp; clear hp; obtain ⟨bpA, _, _, _, rfl, -⟩ := hrA.open; replace hrA := hd hrA; have hsA := Nat.le_refl wA.heap.size; (try replace hrB := hd (hrB.out.below (Nat.le_refl _) hbA)); (try replace hsB := Nat.le_trans hsB hbA.size); replace htA := hd htA) | (go_at_call_of 99 (Value.slice a1 l1.length c1); refine (k1.out _ (by first | exact hB.out.drew | exact hB.out.drew.next hbA)).mono ?_; intro e wB hp; obtain ⟨rfl, hbB⟩ := KoPost_f hp; clear hp))
      all_goals
        have hb10 := hd (hB.out.drew.next (hbA.next hbB))
        go_wp2_with fail
        go_ret2
        exact ⟨by rw [hres.out]; rfl, hb10.out⟩
    | true =>
      go_enter Try.func50, Try.ntmps50
      go_wp2_with fail
      go_region_held3 (fun w' => w'.cell? ⟨w.heap.size, 0, none⟩ = some (.slice a0 l0.length c0) ∧ w'.cell? ⟨w.heap.size + 1, 0, none⟩ = some (.slice a1 l1.length c1))
        (first | go_keep | (go_split_ands; (repeat' apply And.intro) <;> first | exact keepCell hbA (by assumption) | exact keepCell hbB (by assumption) | exact keepCell hb9 (by assumption)))
        (first | (go_at_call_of 99 (Value.slice a0 l0.length c0); refine (k0.out _ (by first | exact hB.out.drew | exact hB.out.drew.next hbB)).mono ?_; intro e wA hp; obtain ⟨tA, vA, rfl, htA, hrA, hbA⟩ := KoPost_t hp; clear hp; obtain ⟨bpA, _, _, _, rfl, -⟩ := hrA.open; replace hrA := hd hrA; have hsA := Nat.le_refl wA.heap.size; (try replace hrB := hd (hrB.out.below (Nat.le_refl _) hbA)); (try replace hsB := Nat.le_trans hsB hbA.size); replace htA := hd htA) | (go_at_call_of 99 (Value.slice a1 l1.length c1); refine (k1.out _ (by first | exact hB.out.drew | exact hB.out.drew.next hbA)).mono ?_; intro e wB hp; obtain ⟨tB, vB, rfl, htB, hrB, hbB⟩ := KoPost_t hp; clear hp; obtain ⟨bpB, _, _, _, rfl, -⟩ := hrB.open; replace hrB := hd hrB; have hsB := Nat.le_refl wB.heap.size; (try replace hrA := hd (hrA.out.below (Nat.le_refl _) hbB)); (try replace hsA := Nat.le_trans hsA hbB.size); replace htB := hd htB))
      all_goals
        have hq0 := hg0.out.1 (by simp)
        have hq1 := hg1.out.1 (by simp)
        have hz := hd (hr.out.1 tA tB htA.out htB.out hq0 hq1)
        have n0 := good_len' hq0
        have n1 := good_len' hq1
        have e0 := enc_count tA _ _ htA.out.1
        have e1 := enc_count tB _ _ htB.out.1
        have cu := hd (fun (va vb : Value) (w' : World) (la ha lb hb : Nat) h1 h2 (hA : RepP w' la ha tA va) (hBB : RepP w' lb hb tB vb) => under_i tB tA va vb w' la ha lb hb h1 h2 (by omega) (by omega) htA.out.2.2.2.1 htB.out.2.2.2.1 hA hBB)
        clear e0 e1 n0 n1
        generalize subB tB tA = z at *
        go_wp2_with fail
      all_goals
        refine (cu.out _ _ _ _ _ _ _ hsA hsB hrA.out hrB.out).mono ?_
        rintro e w9 ⟨rfl, hb9⟩
        have hb10 := hd (hB.out.drew.next (hbA.next (hbB.next hb9)))
        clear hb9
        go_wp2_with fail
        go_ret2
        exact ⟨by rw [hz.out]; rfl, hb10.out⟩
set_option maxHeartbeats 6400000 in
theorem IsSubtype_s (l0 l1 : List DType) (v0 v1 : Value) (w : World) (hl0 : l0.length ≤ 1000000000) (hl1 : l1.length ≤ 1000000000) (hs0 : ∀ x ∈ l0, x.name.size ≤ 1000000000000) (hs1 : ∀ x ∈ l1, x.name.size ≤ 1000000000000) (h0 : Sl w v0 6 (l0.map DType.enc)) (h1 : Sl w v1 6 (l1.map DType.enc)) (r : Bool × Bool) (hr : isP l0 l1 r) :
    Calls Try.prog 49 #[.agg #[v0], .agg #[v1]] w (BB2Post r w) := by
  obtain ⟨g0, hg0⟩ := boolOf (goodP l0)
  obtain ⟨g1, hg1⟩ := boolOf (goodP l1)
  have k0 := hd (fun w' (hbb : Below w.heap.size w w') => GoodSchema_s l0 v0 w' (by omega) hs0 (h0.mono hbb) g0 hg0)
  have k1 := hd (fun w' (hbb : Below w.heap.size w w') => GoodSchema_s l1 v1 w' (by omega) hs1 (h1.mono hbb) g1 hg1)
  have r0 := hd (fun w' (hbb : Below w.heap.size w w') hg t ht => root_s l0 v0 w' hg t ht (h0.mono hbb))
  have r1 := hd (fun w' (hbb : Below w.heap.size w w') hg t ht => root_s l1 v1 w' hg t ht (h1.mono hbb))
  obtain ⟨a0, c0, rfl, -⟩ := h0
  obtain ⟨a1, c1, rfl, -⟩ := h1
  simp only [List.length_map] at k0 k1 r0 r1 ⊢
  replace hr := hd hr
  cases g0 with
  | false =>
    have hres := hd (hr.out.2 (fun q => absurd (hg0.2 q.1) (by simp)))
    clear hg0 hg1
    go_enter Try.func49, Try.ntmps49
    go_wp2_with fail
    refine (k0.out _ (below_a2 _)).mono ?_
    rintro e w2 ⟨rfl, hb2⟩
    have hB := hd ((below_a2 w).next hb2)
    clear hb2
    go_wp2_with fail
    go_ret2
    exact ⟨by rw [hres.out]; rfl, hB.out⟩
  | true =>
    cases g1 with
    | false =>
      have hres := hd (hr.out.2 (fun q => absurd (hg1.2 q.2) (by simp)))
      clear hg0 hg1
      go_enter Try.func49, Try.ntmps49
      go_wp2_with fail
      refine (k0.out _ (below_a2 _)).mono ?_
      rintro e w2 ⟨rfl, hb2⟩
      have q1 := keepCell hb2 (show World.cell? _ ⟨w.heap.size + 1, 0, none⟩ = some (.slice a1 l1.length c1) by go_simp)
      have hB := hd ((below_a2 w).next hb2)
      clear hb2
      go_wp2_with fail
      refine (k1.out _ hB.out).mono ?_
      rintro e w3 ⟨rfl, hb3⟩
      have hB3 := hd (hB.out.next hb3)
      clear hb3
      go_wp2_with fail
      go_ret2
      exact ⟨by rw [hres.out]; rfl, hB3.out⟩
    | true =>
      have hq0 := hg0.1 rfl
      have hq1 := hg1.1 rfl
      obtain ⟨tA, htA⟩ := good_tree hq0
      obtain ⟨tB, htB⟩ := good_tree hq1
      have hz := hd (hr.out.1 tA tB htA htB hq0 hq1)
      have n0 := good_len' hq0
      have n1 := good_len' hq1
      have e0 := enc_count tA _ _ htA.1
      have e1 := enc_count tB _ _ htB.1
      have cu := hd (fun (ra rb : List Value) (w' : World) (la ha lb hb : Nat) h1 h2 (hA : RepT w' la ha tA ra) (hBB : RepT w' lb hb tB rb) => sub_s tB tA ra rb w' la ha lb hb h1 h2 (by omega) (by omega) htA.2.2.2.1 htB.2.2.2.1 hA hBB)
      have rA0 := hd (fun w' (hbb : Below w.heap.size w w') => r0.out w' hbb hq0 tA htA)
      have rB0 := hd (fun w' (hbb : Below w.heap.size w w') => r1.out w' hbb hq1 tB htB)
      clear hg0 hg1 e0 e1 n0 n1 htA htB hq0 hq1 r0 r1 hs0 hs1 hl0 hl1
      generalize subB tB tA = z at *
      go_enter Try.func49, Try.ntmps49
      go_wp2_with fail
      refine (k0.out _ (below_a2 _)).mono ?_
      rintro e w2 ⟨rfl, hb2⟩
      have q0 := keepCell hb2 (show World.cell? _ ⟨w.heap.size, 0, none⟩ = some (.slice a0 l0.length c0) by go_simp)
      have q1 := keepCell hb2 (show World.cell? _ ⟨w.heap.size + 1, 0, none⟩ = some (.slice a1 l1.length c1) by go_simp)
      have hB2 := hd ((below_a2 w).next hb2)
      clear hb2
      go_wp2_with fail
      refine (k1.out _ hB2.out).mono ?_
      rintro e w3 ⟨rfl, hb3⟩
      have p0 := keepCell hb3 q0
      have p1 := keepCell hb3 q1
      have hB := hd (hB2.out.next hb3)
      clear hb3 q0 q1
      go_wp2_with fail
      go_region_held3 (fun w' => w'.cell? ⟨w.heap.size, 0, none⟩ = some (.slice a0 l0.length c0) ∧ w'.cell? ⟨w.heap.size + 1, 0, none⟩ = some (.slice a1 l1.length c1))
        (first | go_keep | (go_split_ands; (repeat' apply And.intro) <;> first | exact keepCell hbA (by assumption) | exact keepCell hbB (by assumption) | exact keepCell hb9 (by assumption)))
        (first
          | (go_at_call 105; refine (cu.out rA rB _ _ _ _ _ hsA hsB hrA.out hrB.out).mono ?_; rintro e w9 ⟨rfl, hb9⟩)
          | (go_at_call_of 97 (Value.slice a0 l0.length c0); refine (rA0.out _ (by first | exact hB.out.drew | exact hB.out.drew.next hbB)).mono ?_; rintro e wA ⟨rA, rfl, hrA, hbA⟩; replace hrA := hd hrA; have hsA := Nat.le_refl wA.heap.size; (try replace hrB := hd (hrB.out.below (Nat.le_refl _) hbA)); (try replace hsB := Nat.le_trans hsB hbA.size))
          | (go_at_call_of 97 (Value.slice a1 l1.length c1); refine (rB0.out _ (by first | exact hB.out.drew | exact hB.out.drew.next hbA)).mono ?_; rintro e wB ⟨rB, rfl, hrB, hbB⟩; replace hrB := hd hrB; have hsB := Nat.le_refl wB.heap.size; (try replace hrA := hd (hrA.out.below (Nat.le_refl _) hbB)); (try replace hsA := Nat.le_trans hsA hbB.size)))
      all_goals
        have hb10 := hd (hB.out.drew.next (hbA.next (hbB.next hb9)))
        go_wp2_with fail
        go_ret2
        exact ⟨by rw [hz.out]; rfl, hb10.out⟩
set_option maxHeartbeats 6400000 in
theorem CanRead_i (l0 l1 : List DType) (v0 v1 : Value) (w : World) (hl0 : l0.length ≤ 1000000000) (hl1 : l1.length ≤ 1000000000) (hs0 : ∀ x ∈ l0, x.name.size ≤ 1000000000000) (hs1 : ∀ x ∈ l1, x.name.size ≤ 1000000000000) (h0 : Sl w v0 6 (l0.map DType.enc)) (h1 : Sl w v1 6 (l1.map DType.enc)) (r : Bool × Bool) (hr : isP l0 l1 r) :
    Calls Try.prog 52 #[.agg #[v0], .agg #[v1]] w (BB2Post r w) := by
  have ci := hd (fun w' (hbb : Below w.heap.size w w') => IsSubtype_i l0 l1 v0 v1 w' hl0 hl1 hs0 hs1 (h0.mono hbb) (h1.mono hbb) r hr)
  obtain ⟨a0, c0, rfl, -⟩ := h0
  obtain ⟨a1, c1, rfl, -⟩ := h1
  simp only [List.length_map] at ci ⊢
  obtain ⟨r0, r1⟩ := r
  clear hr
  go_enter Try.func52, Try.ntmps52
  go_wp2_with fail
  refine (ci.out _ (below_a2 _)).mono ?_
  rintro e w2 ⟨rfl, hb2⟩
  have hB := hd ((below_a2 w).next hb2)
  clear hb2
  go_wp2_with fail
  go_ret2
  exact ⟨rfl, hB.out⟩
set_option maxHeartbeats 6400000 in
theorem CanRead_s (l0 l1 : List DType) (v0 v1 : Value) (w : World) (hl0 : l0.length ≤ 1000000000) (hl1 : l1.length ≤ 1000000000) (hs0 : ∀ x ∈ l0, x.name.size ≤ 1000000000000) (hs1 : ∀ x ∈ l1, x.name.size ≤ 1000000000000) (h0 : Sl w v0 6 (l0.map DType.enc)) (h1 : Sl w v1 6 (l1.map DType.enc)) (r : Bool × Bool) (hr : isP l0 l1 r) :
    Calls Try.prog 51 #[.agg #[v0], .agg #[v1]] w (BB2Post r w) := by
  have ci := hd (fun w' (hbb : Below w.heap.size w w') => IsSubtype_s l0 l1 v0 v1 w' hl0 hl1 hs0 hs1 (h0.mono hbb) (h1.mono hbb) r hr)
  obtain ⟨a0, c0, rfl, -⟩ := h0
  obtain ⟨a1, c1, rfl, -⟩ := h1
  simp only [List.length_map] at ci ⊢
  obtain ⟨r0, r1⟩ := r
  clear hr
  go_enter Try.func51, Try.ntmps51
  go_wp2_with fail
  refine (ci.out _ (below_a2 _)).mono ?_
  rintro e w2 ⟨rfl, hb2⟩
  have hB := hd ((below_a2 w).next hb2)
  clear hb2
  go_wp2_with fail
  go_ret2
  exact ⟨rfl, hB.out⟩
end Go.Proofs.Ytibmhnlmdabliaa
