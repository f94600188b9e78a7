/- JoinOf: its plain law; the program's side. -/
import Derived.Test.YtobahkjbadamhaaJoinI
import Derived.Deep.RegionHeld3
namespace Go.Proofs.Ytobahkjbadamhaa
open Go.RowKit
set_option linter.unusedVariables false
set_option maxRecDepth 100000
theorem small_typesJ {l : List DType} {b : Int} (hb : b ≤ 1048576) (h : SmallType b l.length l) : ∀ x ∈ l, x.name.size ≤ 1000000000000 := by
  intro x hx
  obtain ⟨i, hi, rfl⟩ := List.mem_iff_getElem.1 hx
  have := h i hi hi
  omega
def jnP (la lb : List DType) (b : Bool) (r : List DType) : Prop := (b = true ↔ goodP la ∧ goodP lb) ∧ (∀ ta tb, treeOf la ta → treeOf lb tb → goodP la → goodP lb → ∃ t, joinK ta tb = some t ∧ goodK t ∧ r = rowsK t (-1) 0) ∧ (b = false → r = [])
theorem jnP_ex (la lb : List DType) : ∃ b r, jnP la lb b r ∧ r.length ≤ 30 := by
  by_cases h : goodP la ∧ goodP lb
  · obtain ⟨ta, hta⟩ := good_tree h.1
    obtain ⟨tb, htb⟩ := good_tree h.2
    obtain ⟨t, ht, hg⟩ := join_good hta.2 htb.2
    refine ⟨true, rowsK t (-1) 0, ⟨⟨fun _ => h, fun _ => rfl⟩, fun ta' tb' h1 h2 _ _ => ⟨t, by rw [treeOf_uniq h1 hta, treeOf_uniq h2 htb]; exact ht, hg, rfl⟩, fun e => by cases e⟩, ?_⟩
    rw [rows_count]; exact good_small hg
  · exact ⟨false, [], ⟨⟨(by intro e; cases e), fun g => absurd g h⟩, fun _ _ _ _ h1 h2 => absurd ⟨h1, h2⟩ h, fun _ => rfl⟩, by simp⟩
set_option maxHeartbeats 6400000 in
theorem JoinOf_i (l0 l1 : List DType) (v0 v1 : Value) (w : World) (hl0 : l0.length ≤ 1000000000) (hl1 : l1.length ≤ 1000000000) (hs0 : ∀ x ∈ l0, x.name.size ≤ 1000000000000) (hs1 : ∀ x ∈ l1, x.name.size ≤ 1000000000000) (h0 : Sl w v0 6 (l0.map DType.enc)) (h1 : Sl w v1 6 (l1.map DType.enc)) (b : Bool) (r : List DType) (hr : jnP l0 l1 b r) :
    Calls Try.prog 22 #[.agg #[v0], .agg #[v1]] w (AggbPost 71 6 (r.map DType.enc) b w) := by
  obtain ⟨g0, hg0⟩ := boolOf (goodP l0)
  obtain ⟨g1, hg1⟩ := boolOf (goodP l1)
  have k0 := hd (fun w' (hbb : Below w.heap.size w w') => kindOf_i l0 v0 w' (by omega) hs0 (h0.mono hbb) g0 hg0)
  have k1 := hd (fun w' (hbb : Below w.heap.size w w') => kindOf_i l1 v1 w' (by omega) hs1 (h1.mono hbb) g1 hg1)
  obtain ⟨a0, c0, rfl, -⟩ := h0
  obtain ⟨a1, c1, rfl, -⟩ := h1
  simp only [List.length_map] at k0 k1 ⊢
  replace hr := hd hr
  replace hg0 := hd hg0
  replace hg1 := hd hg1
  have hB := hd (below_a3 w (a := .cells #[.slice a0 l0.length c0] 28) (b := .cells #[.slice a1 l1.length c1] 28) (c := .cells #[.slice none 0 0] 28))
  have hx := hd (show Box1 (((w.alloc (.cells #[.slice a0 l0.length c0] 28)).alloc (.cells #[.slice a1 l1.length c1] 28)).alloc (.cells #[.slice none 0 0] 28)) (w.heap.size + 1 + 1) (.slice none 0 0) from ⟨by go_simp, by go_simp⟩)
  cases g0 with
  | false =>
    cases g1 with
    | false =>
      have hbf := hd (nb hr.out.1 (fun q => absurd (hg0.out.2 q.1) (by simp)))
      have hrf := hd (hr.out.2.2 hbf.out)
      go_enter Try.func22, Try.ntmps22
      go_wp2_with fail
      go_region_held3 (fun w' => w'.cell? ⟨w.heap.size, 0, none⟩ = some (.slice a0 l0.length c0) ∧ w'.cell? ⟨w.heap.size + 1, 0, none⟩ = some (.slice a1 l1.length c1))
        (first | go_keep | (go_split_ands; (repeat' apply And.intro) <;> first | exact keepCell hbA (by assumption) | exact keepCell hbB (by assumption) | exact keepCell hb9 (by assumption)))
        (first | (go_at_call_of 63 (Value.slice a0 l0.length c0); refine (k0.out _ (by first | exact hB.out.drew | exact hB.out.drew.next hbB)).mono ?_; intro e wA hp; obtain ⟨rfl, hbA⟩ := KoPost_f hp; clear hp) | (go_at_call_of 63 (Value.slice a1 l1.length c1); refine (k1.out _ (by first | exact hB.out.drew | exact hB.out.drew.next hbA)).mono ?_; intro e wB hp; obtain ⟨rfl, hbB⟩ := KoPost_f hp; clear hp))
      all_goals
        have hb10 := hd (hB.out.drew.next (hbA.next hbB))
        have hx10 := hd (Box1.below hx.out ((Below.refl _ _).drew.next (hbA.next hbB)))
        have Q1 := hx10.out.1; have Q2 := hx10.out.2
        go_wp2_with fail
        refine bodyPost_ret (v := .tuple #[.agg #[.slice none 0 0], .bool false]) (by simp [results, Try.results22, go_sem, Q1]) rfl ⟨_, none, by rw [hbf.out], by rw [hrf.out]; exact OwnR.nil, ?_⟩
        exact hb10.out.setCell (by show w.heap.size ≤ w.heap.size + 1 + 1; omega) _
    | true =>
      have hbf := hd (nb hr.out.1 (fun q => absurd (hg0.out.2 q.1) (by simp)))
      have hrf := hd (hr.out.2.2 hbf.out)
      go_enter Try.func22, Try.ntmps22
      go_wp2_with fail
      go_region_held3 (fun w' => w'.cell? ⟨w.heap.size, 0, none⟩ = some (.slice a0 l0.length c0) ∧ w'.cell? ⟨w.heap.size + 1, 0, none⟩ = some (.slice a1 l1.length c1))
        (first | go_keep | (go_split_ands; (repeat' apply And.intro) <;> first | exact keepCell hbA (by assumption) | exact keepCell hbB (by assumption) | exact keepCell hb9 (by assumption)))
        (first | (go_at_call_of 63 (Value.slice a0 l0.length c0); refine (k0.out _ (by first | exact hB.out.drew | exact hB.out.drew.next hbB)).mono ?_; intro e wA hp; obtain ⟨rfl, hbA⟩ := KoPost_f hp; clear hp) | (go_at_call_of 63 (Value.slice a1 l1.length c1); refine (k1.out _ (by first | exact hB.out.drew | exact hB.out.drew.next hbA)).mono ?_; intro e wB hp; obtain ⟨tB, vB, rfl, htB, hrB, hbB⟩ := KoPost_t hp; clear hp; obtain ⟨bpB, _, _, _, rfl, -⟩ := hrB.open; replace hrB := hd hrB; have hsB := Nat.le_refl wB.heap.size; (try replace hrA := hd (hrA.out.below (Nat.le_refl _) hbB)); (try replace hsA := Nat.le_trans hsA hbB.size); replace htB := hd htB))
      all_goals
        have hb10 := hd (hB.out.drew.next (hbA.next hbB))
        have hx10 := hd (Box1.below hx.out ((Below.refl _ _).drew.next (hbA.next hbB)))
        have Q1 := hx10.out.1; have Q2 := hx10.out.2
        go_wp2_with fail
        refine bodyPost_ret (v := .tuple #[.agg #[.slice none 0 0], .bool false]) (by simp [results, Try.results22, go_sem, Q1]) rfl ⟨_, none, by rw [hbf.out], by rw [hrf.out]; exact OwnR.nil, ?_⟩
        exact hb10.out.setCell (by show w.heap.size ≤ w.heap.size + 1 + 1; omega) _
  | true =>
    cases g1 with
    | false =>
      have hbf := hd (nb hr.out.1 (fun q => absurd (hg1.out.2 q.2) (by simp)))
      have hrf := hd (hr.out.2.2 hbf.out)
      go_enter Try.func22, Try.ntmps22
      go_wp2_with fail
      go_region_held3 (fun w' => w'.cell? ⟨w.heap.size, 0, none⟩ = some (.slice a0 l0.length c0) ∧ w'.cell? ⟨w.heap.size + 1, 0, none⟩ = some (.slice a1 l1.length c1))
        (first | go_keep | (go_split_ands; (repeat' apply And.intro) <;> first | exact keepCell hbA (by assumption) | exact keepCell hbB (by assumption) | exact keepCell hb9 (by assumption)))
        (first | (go_at_call_of 63 (Value.slice a0 l0.length c0); refine (k0.out _ (by first | exact hB.out.drew | exact hB.out.drew.next hbB)).mono ?_; intro e wA hp; obtain ⟨tA, vA, rfl, htA, hrA, hbA⟩ := KoPost_t hp; clear hp; obtain ⟨bpA, _, _, _, rfl, -⟩ := hrA.open; replace hrA := hd hrA; have hsA := Nat.le_refl wA.heap.size; (try replace hrB := hd (hrB.out.below (Nat.le_refl _) hbA)); (try replace hsB := Nat.le_trans hsB hbA.size); replace htA := hd htA) | (go_at_call_of 63 (Value.slice a1 l1.length c1); refine (k1.out _ (by first | exact hB.out.drew | exact hB.out.drew.next hbA)).mono ?_; intro e wB hp; obtain ⟨rfl, hbB⟩ := KoPost_f hp; clear hp))
      all_goals
        have hb10 := hd (hB.out.drew.next (hbA.next hbB))
        have hx10 := hd (Box1.below hx.out ((Below.refl _ _).drew.next (hbA.next hbB)))
        have Q1 := hx10.out.1; have Q2 := hx10.out.2
        go_wp2_with fail
        refine bodyPost_ret (v := .tuple #[.agg #[.slice none 0 0], .bool false]) (by simp [results, Try.results22, go_sem, Q1]) rfl ⟨_, none, by rw [hbf.out], by rw [hrf.out]; exact OwnR.nil, ?_⟩
        exact hb10.out.setCell (by show w.heap.size ≤ w.heap.size + 1 + 1; omega) _
    | true =>
      go_enter Try.func22, Try.ntmps22
      go_wp2_with fail
      go_region_held3 (fun w' => w'.cell? ⟨w.heap.size, 0, none⟩ = some (.slice a0 l0.length c0) ∧ w'.cell? ⟨w.heap.size + 1, 0, none⟩ = some (.slice a1 l1.length c1))
        (first | go_keep | (go_split_ands; (repeat' apply And.intro) <;> first | exact keepCell hbA (by assumption) | exact keepCell hbB (by assumption) | exact keepCell hb9 (by assumption)))
        (first | (go_at_call_of 63 (Value.slice a0 l0.length c0); refine (k0.out _ (by first | exact hB.out.drew | exact hB.out.drew.next hbB)).mono ?_; intro e wA hp; obtain ⟨tA, vA, rfl, htA, hrA, hbA⟩ := KoPost_t hp; clear hp; obtain ⟨bpA, _, _, _, rfl, -⟩ := hrA.open; replace hrA := hd hrA; have hsA := Nat.le_refl wA.heap.size; (try replace hrB := hd (hrB.out.below (Nat.le_refl _) hbA)); (try replace hsB := Nat.le_trans hsB hbA.size); replace htA := hd htA) | (go_at_call_of 63 (Value.slice a1 l1.length c1); refine (k1.out _ (by first | exact hB.out.drew | exact hB.out.drew.next hbA)).mono ?_; intro e wB hp; obtain ⟨tB, vB, rfl, htB, hrB, hbB⟩ := KoPost_t hp; clear hp; obtain ⟨bpB, _, _, _, rfl, -⟩ := hrB.open; replace hrB := hd hrB; have hsB := Nat.le_refl wB.heap.size; (try replace hrA := hd (hrA.out.below (Nat.le_refl _) hbB)); (try replace hsA := Nat.le_trans hsA hbB.size); replace htB := hd htB))
      all_goals
        have hq0 := hg0.out.1 (by simp)
        have hq1 := hg1.out.1 (by simp)
        have hbt := hd (hr.out.1.2 ⟨hq0, hq1⟩)
        obtain ⟨t, ht, hgd, hrr⟩ := hr.out.2.1 tA tB htA.out htB.out hq0 hq1
        have e0 := good_small htA.out.2
        have e1 := good_small htB.out.2
        have cu := hd (fun (va vb : Value) (w' : World) (la ha lb hb : Nat) h1 h2 (hA : RepP w' la ha tA va) (hBB : RepP w' lb hb tB vb) => join_i tA tB va vb w' la ha lb hb h1 h2 (by omega) (by omega) htA.out.2.2.2.1 htB.out.2.2.2.1 hA hBB)
        rw [ht] at cu
        replace hgd := hd hgd
        replace hrr := hd hrr
        clear e0 e1 ht
        have hx10 := hd (Box1.below hx.out ((Below.refl _ _).drew.next (hbA.next hbB)))
        go_wp2_with fail
      all_goals
        refine (cu.out _ _ _ _ _ _ _ hsA hsB hrA.out hrB.out).mono ?_
        rintro e w9 ⟨v9, rfl, hr9, hb9⟩
        have cs := hd (schema_i t v9 w9 _ _ (Nat.le_refl _) hgd.out hr9)
        obtain ⟨bp9, _, _, _, rfl, -⟩ := hr9.open
        have hb10 := hd (hB.out.drew.next (hbA.next (hbB.next hb9)))
        have hx11 := hd (hx10.out.below hb9)
        clear hb9 hr9
        go_wp2_with fail
        refine cs.out.mono ?_
        rintro e6 w6 ⟨v6, rb6, rfl, ho6, hb6⟩
        have hx6 := hd (hx11.out.below hb6)
        have hB6 := hd (hb10.out.next hb6)
        have hz9 := hb10.out.size
        have hz8 := hx11.out.lt
        rw [← hrr.out] at ho6
        obtain ⟨a6, c6, rfl, hjk⟩ := ho6.sl
        have hle := congrArg List.length hrr.out
        clear hjk
        simp only [List.length_map] at ho6 ⊢
        have Q1 := hx6.out.1; have Q2 := hx6.out.2
        replace ho6 := hd ho6
        clear hb6
        go_wp2_with fail
        refine bodyPost_ret (v := .tuple #[.agg #[.slice a6 r.length c6], .bool true]) (by simp [results, Try.results22, go_sem, Q1, hle]) rfl ?_
        rw [hbt.out]
        exact AggbPost.of (rb := rb6) (ownR_store ho6.out (by first | omega | (simp; omega)) (by first | omega | (simp; omega))) (hB6.out.setCell (by show w.heap.size ≤ w.heap.size + 1 + 1; omega) _)
end Go.Proofs.Ytobahkjbadamhaa
