/- IsInstance of the program. -/
import Derived.Test.YtbjilpemckoioaaInstI
import Derived.Deep.RegionHeld3
namespace Go.Proofs.Ytbjilpemckoioaa
open Go.RowKit Go.Maps Go.ChangeMaps
set_option linter.unusedVariables false
set_option maxRecDepth 100000
/-- What IsInstance answers: two flags. -/
noncomputable def isInst (l0 l1 : List DCell) : Bool × Bool := match termT l0, termT l1 with
  | some t0, some t1 => ((insK t1 t0 (fun _ => none)).1, true)
  | _, _ => (false, false)
theorem isInst_n0 {l0 l1 : List DCell} (h : termT l0 = none) : isInst l0 l1 = (false, false) := by rw [isInst, h]
theorem isInst_n1 {l0 l1 : List DCell} (h : termT l1 = none) : isInst l0 l1 = (false, false) := by
  rw [isInst, h]; cases termT l0 <;> rfl
theorem isInst_s {l0 l1 : List DCell} {t0 t1 : K} (h : termT l0 = some t0) (h1 : termT l1 = some t1) : isInst l0 l1 = ((insK t1 t0 (fun _ => none)).1, true) := by rw [isInst, h, h1]
theorem termT_good {l : List DCell} {t : K} (h : termT l = some t) : countK t ≤ 30 ∧ TmOk t := by
  obtain ⟨h1, h2⟩ := termT_some h
  have h3 := rdT_count _ _ _ _ h2
  rw [List.length_nil] at h3
  exact ⟨by omega, rdT_ok _ _ _ _ h2⟩
theorem EnvOk.none : EnvOk (fun _ => none) := fun o t h => by cases h
def BBPost2 (r : Bool × Bool) (w : World) (e : Ending) (w' : World) : Prop := e = .returned (.tuple #[.bool r.1, .bool r.2]) ∧ Below w.heap.size w w'
def AllB (w : World) (b : Nat) : Prop := b < w.heap.size
theorem RepY.all {w w' : World} {t : K} {v : Value} (h : RepY HT w (AllB w) t v) (hb : Below w.heap.size w w') : RepY HT w' (AllB w') t v :=
  RepY.same (SameS.below hb (fun q h => h)) (fun q h => Nat.lt_of_lt_of_le h hb.size) _ _ h
theorem RepY.toAll {w w' : World} {t : K} {v : Value} (h : RepY HT w' (NewB w w') t v) : RepY HT w' (AllB w') t v :=
  RepY.same (SameS.refl _ _) (fun q h => h.2) _ _ h
theorem instance_new (t0 t1 : K) (v0 v1 : Value) (w : World) (h0 : countK t0 ≤ 30 ∧ TmOk t0) (h1 : countK t1 ≤ 30 ∧ TmOk t1) (hA : RepY HT w (AllB w) t0 v0) (hB : RepY HT w (AllB w) t1 v1) (z : Bool) (hz : (insK t1 t0 (fun _ => none)).1 = z) :
    Calls Try.prog 57 #[v0, v1, .map (some w.heap.size)] (w.alloc (.map #[] 0)) (fun e w' => e = .returned (.bool z) ∧ Below w.heap.size w w') := by
  have hs : SameS w (w.alloc (.map #[] 0)) (AllB w) := SameS.below (below_a1 w) (fun q h => h)
  refine (instance_i t1 t0 (fun _ => none) v0 v1 (w.alloc (.map #[] 0)) w.heap.size 0 (AllB w) (fun q h => ⟨?_, ?_⟩) (by simp) (by omega) (by omega) (by omega) h0.2 h1.2 EnvOk.none (RepY.same hs (fun _ h => h) _ _ hA) (RepY.same hs (fun _ h => h) _ _ hB) EnvM.new).mono ?_
  · have h : q < w.heap.size := h
    simp; omega
  · exact Nat.ne_of_lt h
  · rintro e w' ⟨rfl, _, hg⟩
    exact ⟨by rw [hz], below_made hg (fun g hg => by cases hg; exact Nat.le_refl _)⟩
set_option maxHeartbeats 6400000 in
theorem IsInstance_i (l0 l1 : List DCell) (v0 v1 : Value) (w : World) (hl0 : l0.length ≤ 1000000000) (hl1 : l1.length ≤ 1000000000) (hs0 : ∀ x ∈ l0, x.name.size ≤ 1000000000000) (hs1 : ∀ x ∈ l1, x.name.size ≤ 1000000000000) (hp0 : ∀ a n c, v0 = .slice a n c → n ≤ c) (hp1 : ∀ a n c, v1 = .slice a n c → n ≤ c) (h0 : Sl w v0 3 (l0.map DCell.enc)) (h1 : Sl w v1 3 (l1.map DCell.enc)) (r : Bool × Bool) (hr : isInst l0 l1 = r) :
    Calls Try.prog 16 #[.agg #[v0], .agg #[v1]] w (BBPost2 r w) := by
  have h00 := h0
  have h11 := h1
  obtain ⟨a0, c0, rfl, -⟩ := h0
  obtain ⟨a1, c1, rfl, -⟩ := h1
  simp only [List.length_map] at h00 h11 hp0 hp1 ⊢
  have hc0 := hp0 _ _ _ rfl
  have hc1 := hp1 _ _ _ rfl
  have k0 := hd (fun w' (hbb : Below w.heap.size w w') => treeOf_i l0 a0 c0 w' hl0 hc0 hs0 (h00.mono hbb))
  have k1 := hd (fun w' (hbb : Below w.heap.size w w') => treeOf_i l1 a1 c1 w' hl1 hc1 hs1 (h11.mono hbb))
  clear hs0 hs1 hp0 hp1 h00 h11
  have hB := hd (below_a2 w (a := .cells #[.slice a0 l0.length c0] 29) (b := .cells #[.slice a1 l1.length c1] 29))
  cases hT0 : termT l0 with
  | none =>
    rw [hT0] at k0
    have hres := hd (show r = (false, false) by rw [← hr, isInst_n0 hT0])
    clear hr
    cases hT1 : termT l1 with
    | none =>
      rw [hT1] at k1
      go_enter Try.func16, Try.ntmps16
      go_wp2_with fail
      go_region_held3 (fun w' => w'.cell? ⟨w.heap.size, 0, none⟩ = some (.slice a0 l0.length c0) ∧ w'.cell? ⟨w.heap.size + 1, 0, none⟩ = some (.slice a1 l1.length c1))
        (first | go_keep | (go_split_ands; (repeat' apply And.intro) <;> first | exact keepCell hbA (by assumption) | exact keepCell hbB (by assumption)))
        (first | (go_at_call_of 54 (Value.slice a0 l0.length c0); refine (k0.out _ (by first | exact hB.out.drew | exact hB.out.drew.next hbB)).mono ?_; intro e wA hp; obtain ⟨rfl, hbA⟩ := ToPost_n hp; clear hp; (try replace hrB := hd (hrB.out.all hbA))) | (go_at_call_of 54 (Value.slice a1 l1.length c1); refine (k1.out _ (by first | exact hB.out.drew | exact hB.out.drew.next hbA)).mono ?_; intro e wB hp; obtain ⟨rfl, hbB⟩ := ToPost_n hp; clear hp; (try replace hrA := hd (hrA.out.all hbB))))
      all_goals
        have hb10 := hd (hB.out.drew.next (by first | exact hbA.next hbB | exact hbB.next hbA))
        go_wp2_with fail
        go_ret2
        exact ⟨by rw [hres.out]; rfl, hb10.out⟩
    | some t1 =>
      rw [hT1] at k1
      go_enter Try.func16, Try.ntmps16
      go_wp2_with fail
      go_region_held3 (fun w' => w'.cell? ⟨w.heap.size, 0, none⟩ = some (.slice a0 l0.length c0) ∧ w'.cell? ⟨w.heap.size + 1, 0, none⟩ = some (.slice a1 l1.length c1))
        (first | go_keep | (go_split_ands; (repeat' apply And.intro) <;> first | exact keepCell hbA (by assumption) | exact keepCell hbB (by assumption)))
        (first | (go_at_call_of 54 (Value.slice a0 l0.length c0); refine (k0.out _ (by first | exact hB.out.drew | exact hB.out.drew.next hbB)).mono ?_; intro e wA hp; obtain ⟨rfl, hbA⟩ := ToPost_n hp; clear hp; (try replace hrB := hd (hrB.out.all hbA))) | (go_at_call_of 54 (Value.slice a1 l1.length c1); refine (k1.out _ (by first | exact hB.out.drew | exact hB.out.drew.next hbA)).mono ?_; intro e wB hp; obtain ⟨bB, rfl, hrB, hbB⟩ := ToPost_s hp; clear hp; replace hrB := hd hrB.toAll; (try replace hrA := hd (hrA.out.all hbB))))
      all_goals
        have hb10 := hd (hB.out.drew.next (by first | exact hbA.next hbB | exact hbB.next hbA))
        go_wp2_with fail
        go_ret2
        exact ⟨by rw [hres.out]; rfl, hb10.out⟩
  | some t0 =>
    rw [hT0] at k0
    cases hT1 : termT l1 with
    | none =>
      rw [hT1] at k1
      have hres := hd (show r = (false, false) by rw [← hr, isInst_n1 hT1])
      clear hr
      go_enter Try.func16, Try.ntmps16
      go_wp2_with fail
      go_region_held3 (fun w' => w'.cell? ⟨w.heap.size, 0, none⟩ = some (.slice a0 l0.length c0) ∧ w'.cell? ⟨w.heap.size + 1, 0, none⟩ = some (.slice a1 l1.length c1))
        (first | go_keep | (go_split_ands; (repeat' apply And.intro) <;> first | exact keepCell hbA (by assumption) | exact keepCell hbB (by assumption)))
        (first | (go_at_call_of 54 (Value.slice a0 l0.length c0); refine (k0.out _ (by first | exact hB.out.drew | exact hB.out.drew.next hbB)).mono ?_; intro e wA hp; obtain ⟨bA, rfl, hrA, hbA⟩ := ToPost_s hp; clear hp; replace hrA := hd hrA.toAll; (try replace hrB := hd (hrB.out.all hbA))) | (go_at_call_of 54 (Value.slice a1 l1.length c1); refine (k1.out _ (by first | exact hB.out.drew | exact hB.out.drew.next hbA)).mono ?_; intro e wB hp; obtain ⟨rfl, hbB⟩ := ToPost_n hp; clear hp; (try replace hrA := hd (hrA.out.all hbB))))
      all_goals
        have hb10 := hd (hB.out.drew.next (by first | exact hbA.next hbB | exact hbB.next hbA))
        go_wp2_with fail
        go_ret2
        exact ⟨by rw [hres.out]; rfl, hb10.out⟩
    | some t1 =>
      rw [hT1] at k1
      obtain ⟨z, hz⟩ : ∃ z, (insK t1 t0 (fun _ => none)).1 = z := ⟨_, rfl⟩
      have hres := hd (show r = (z, true) by rw [← hr, isInst_s hT0 hT1, hz])
      have cu := hd (fun v0 v1 w' hA hB => instance_new t0 t1 v0 v1 w' (termT_good hT0) (termT_good hT1) hA hB z hz)
      clear hr hT0 hT1 hz
      have hmm := @run_makeMap Try.prog
      go_enter Try.func16, Try.ntmps16
      go_wp2_with fail
      go_region_held3 (fun w' => w'.cell? ⟨w.heap.size, 0, none⟩ = some (.slice a0 l0.length c0) ∧ w'.cell? ⟨w.heap.size + 1, 0, none⟩ = some (.slice a1 l1.length c1))
        (first | go_keep | (go_split_ands; (repeat' apply And.intro) <;> first | exact keepCell hbA (by assumption) | exact keepCell hbB (by assumption)))
        (first | (go_at_call_of 54 (Value.slice a0 l0.length c0); refine (k0.out _ (by first | exact hB.out.drew | exact hB.out.drew.next hbB)).mono ?_; intro e wA hp; obtain ⟨bA, rfl, hrA, hbA⟩ := ToPost_s hp; clear hp; replace hrA := hd hrA.toAll; (try replace hrB := hd (hrB.out.all hbA))) | (go_at_call_of 54 (Value.slice a1 l1.length c1); refine (k1.out _ (by first | exact hB.out.drew | exact hB.out.drew.next hbA)).mono ?_; intro e wB hp; obtain ⟨bB, rfl, hrB, hbB⟩ := ToPost_s hp; clear hp; replace hrB := hd hrB.toAll; (try replace hrA := hd (hrA.out.all hbB))))
      all_goals
        have hb10 := hd (hB.out.drew.next (by first | exact hbA.next hbB | exact hbB.next hbA))
        go_wp2_with fail
      all_goals
        refine (cu.out _ _ _ hrA.out hrB.out).mono ?_
        rintro e w9 ⟨rfl, hb9⟩
        have hb11 := hd (hb10.out.next hb9)
        clear hb9
        go_wp2_with fail
        go_ret2
        exact ⟨by rw [hres.out]; rfl, hb11.out⟩
end Go.Proofs.Ytbjilpemckoioaa
