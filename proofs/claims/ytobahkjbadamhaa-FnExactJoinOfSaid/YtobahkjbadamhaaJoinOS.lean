/- JoinOf of the reference. -/
import Derived.Test.YtobahkjbadamhaaJoinS
import Derived.Test.YtobahkjbadamhaaJoinOI
namespace Go.Proofs.Ytobahkjbadamhaa
open Go.RowKit
set_option linter.unusedVariables false
set_option maxRecDepth 100000
set_option maxHeartbeats 12800000 in
theorem JoinOf_s (l0 l1 : List DType) (v0 v1 : Value) (w : World) (hl0 : l0.length ≤ 1000000000) (hl1 : l1.length ≤ 1000000000) (hs0 : ∀ x ∈ l0, x.name.size ≤ 1000000000000) (hs1 : ∀ x ∈ l1, x.name.size ≤ 1000000000000) (h0 : Sl w v0 6 (l0.map DType.enc)) (h1 : Sl w v1 6 (l1.map DType.enc)) (b : Bool) (r : List DType) (hr : jnP l0 l1 b r) :
    Calls Try.prog 21 #[.agg #[v0], .agg #[v1]] w (AggbPost 71 6 (r.map DType.enc) b w) := by
  obtain ⟨g0, hg0⟩ := boolOf (goodP l0)
  obtain ⟨g1, hg1⟩ := boolOf (goodP l1)
  have k0 := hd (fun w' (hbb : Below w.heap.size w w') => GoodSchema_s l0 v0 w' (by omega) hs0 (h0.mono hbb) g0 hg0)
  have k1 := hd (fun w' (hbb : Below w.heap.size w w') => GoodSchema_s l1 v1 w' (by omega) hs1 (h1.mono hbb) g1 hg1)
  have r0 := hd (fun w' (hbb : Below w.heap.size w w') hg t ht => root_s l0 v0 w' hg t ht (h0.mono hbb))
  have r1 := hd (fun w' (hbb : Below w.heap.size w w') hg t ht => root_s l1 v1 w' hg t ht (h1.mono hbb))
  obtain ⟨a0, c0, rfl, -⟩ := h0
  obtain ⟨a1, c1, rfl, -⟩ := h1
  simp only [List.length_map] at k0 k1 r0 r1 ⊢
  replace hr := hd hr
  have hx := hd (show Box1 (((w.alloc (.cells #[.slice a0 l0.length c0] 28)).alloc (.cells #[.slice a1 l1.length c1] 28)).alloc (.cells #[.slice none 0 0] 28)) (w.heap.size + 1 + 1) (.slice none 0 0) from ⟨by go_simp, by go_simp⟩)
  cases g0 with
  | false =>
    have hbf := hd (nb hr.out.1 (fun q => absurd (hg0.2 q.1) (by simp)))
    have hrf := hd (hr.out.2.2 hbf.out)
    clear hg0 hg1
    go_enter Try.func21, Try.ntmps21
    go_wp2_with fail
    refine (k0.out _ (below_a3 _)).mono ?_
    rintro e w2 ⟨rfl, hb2⟩
    have hx2 := hd (hx.out.below hb2)
    have Q1 := hx2.out.1; have Q2 := hx2.out.2
    have hB := hd ((below_a3 w).next hb2)
    clear hb2
    go_wp2_with fail
    refine bodyPost_ret (v := .tuple #[.agg #[.slice none 0 0], .bool false]) (by simp [results, Try.results21, go_sem, Q1]) rfl ⟨_, none, by rw [hbf.out], by rw [hrf.out]; exact OwnR.nil, ?_⟩
    exact hB.out.setCell (by show w.heap.size ≤ w.heap.size + 1 + 1; omega) _
  | true =>
    cases g1 with
    | false =>
      have hbf := hd (nb hr.out.1 (fun q => absurd (hg1.2 q.2) (by simp)))
      have hrf := hd (hr.out.2.2 hbf.out)
      clear hg0 hg1
      go_enter Try.func21, Try.ntmps21
      go_wp2_with fail
      refine (k0.out _ (below_a3 _)).mono ?_
      rintro e w2 ⟨rfl, hb2⟩
      have q1 := keepCell hb2 (show World.cell? _ ⟨w.heap.size + 1, 0, none⟩ = some (.slice a1 l1.length c1) by go_simp)
      have hx2 := hd (hx.out.below hb2)
      have hB := hd ((below_a3 w).next hb2)
      clear hb2
      go_wp2_with fail
      refine (k1.out _ hB.out).mono ?_
      rintro e w3 ⟨rfl, hb3⟩
      have hx3 := hd (hx2.out.below hb3)
      have Q1 := hx3.out.1; have Q2 := hx3.out.2
      have hB3 := hd (hB.out.next hb3)
      clear hb3
      go_wp2_with fail
      refine bodyPost_ret (v := .tuple #[.agg #[.slice none 0 0], .bool false]) (by simp [results, Try.results21, go_sem, Q1]) rfl ⟨_, none, by rw [hbf.out], by rw [hrf.out]; exact OwnR.nil, ?_⟩
      exact hB3.out.setCell (by show w.heap.size ≤ w.heap.size + 1 + 1; omega) _
    | true =>
      have hq0 := hg0.1 rfl
      have hq1 := hg1.1 rfl
      obtain ⟨tA, htA⟩ := good_tree hq0
      obtain ⟨tB, htB⟩ := good_tree hq1
      have hbt := hd (hr.out.1.2 ⟨hq0, hq1⟩)
      obtain ⟨t, ht, hgd, hrr⟩ := hr.out.2.1 tA tB htA htB hq0 hq1
      have e0 := good_small htA.2
      have e1 := good_small htB.2
      have cj := hd (fun (ra rb : List Value) (w' : World) (la ha lb hb : Nat) h1 h2 (hA : RepT w' la ha tA ra) (hBB : RepT w' lb hb tB rb) => join_s tA tB ra rb w' la ha lb hb h1 h2 (by omega) (by omega) htA.2.2.2.1 htB.2.2.2.1 hA hBB)
      rw [ht] at cj
      replace hgd := hd hgd
      replace hrr := hd hrr
      have rA0 := hd (fun w' (hbb : Below w.heap.size w w') => r0.out w' hbb hq0 tA htA)
      have rB0 := hd (fun w' (hbb : Below w.heap.size w w') => r1.out w' hbb hq1 tB htB)
      clear hg0 hg1 e0 e1 ht htA htB hq0 hq1 r0 r1 hs0 hs1 hl0 hl1 hr
      go_enter Try.func21, Try.ntmps21
      go_wp2_with fail
      refine (k0.out _ (below_a3 _)).mono ?_
      rintro e w2 ⟨rfl, hb2⟩
      have q0 := keepCell hb2 (show World.cell? _ ⟨w.heap.size, 0, none⟩ = some (.slice a0 l0.length c0) by go_simp)
      have q1 := keepCell hb2 (show World.cell? _ ⟨w.heap.size + 1, 0, none⟩ = some (.slice a1 l1.length c1) by go_simp)
      have hx2 := hd (hx.out.below hb2)
      have hB2 := hd ((below_a3 w).next hb2)
      clear hb2 hx
      go_wp2_with fail
      refine (k1.out _ hB2.out).mono ?_
      rintro e w3 ⟨rfl, hb3⟩
      have p0 := keepCell hb3 q0
      have p1 := keepCell hb3 q1
      have hx3 := hd (hx2.out.below hb3)
      have hB := hd (hB2.out.next hb3)
      clear hb3 q0 q1 hx2 hB2 k0 k1
      go_upto_region 3 with (fail)
      have p0a := keepCell (below_a1 w3 (a := (.cells #[.int .i64 0, .string ⟨#[]⟩, .int .i64 0, .bool false, .int .i64 0, .slice none 0 0] 74))) p0
      have p1a := keepCell (below_a1 w3 (a := (.cells #[.int .i64 0, .string ⟨#[]⟩, .int .i64 0, .bool false, .int .i64 0, .slice none 0 0] 74))) p1
      go_cut [6, 7] from 17 to 24 (fun q d wy => ∃ b7 : Nat, q = .pointer (some ⟨b7, 0, none⟩) ∧ d = .bool true ∧ Hd (JcPost (some t) w3 wy b7))
      case first =>
        clear hx3 hbt hrr hgd
        go_region_law (go_simp; (first
          | (go_at_call_of 51 (Value.slice a0 l0.length c0); refine (rA0.out _ (hB.out.next (by (repeat (first | exact Below.refl _ _ | refine Below.drew ?_ | refine Below.next ?_ (below_a1 _) | refine Below.next ?_ hbB.out)); done))).mono ?_; rintro e' wA ⟨rA, rfl, hRA, hbA0⟩; obtain ⟨aA, cA, rwA, rfl, hjk⟩ := hRA.open; clear hjk; have hRA := hd hRA; have hbA := hd hbA0; have kA := hd (fun b v (h : BoxN _ b v) => BoxN.below (b := b) (cs := v) h hbA0); clear hbA0; have p0A := keepCell hbA.out (show World.cell? _ ⟨w.heap.size, 0, none⟩ = some (.slice a0 l0.length c0) from (by first | exact p0 | exact p0a | exact p0B | exact p0Ba)); have p0Aa := keepCell (below_a1 wA (a := (.cells #[.int .i64 0, .string ⟨#[]⟩, .int .i64 0, .bool false, .int .i64 0, .slice none 0 0] 74))) p0A; have p1A := keepCell hbA.out (show World.cell? _ ⟨w.heap.size + 1, 0, none⟩ = some (.slice a1 l1.length c1) from (by first | exact p1 | exact p1a | exact p1B | exact p1Ba)); have p1Aa := keepCell (below_a1 wA (a := (.cells #[.int .i64 0, .string ⟨#[]⟩, .int .i64 0, .bool false, .int .i64 0, .slice none 0 0] 74))) p1A)
          | (go_at_call_of 51 (Value.slice a1 l1.length c1); refine (rB0.out _ (hB.out.next (by (repeat (first | exact Below.refl _ _ | refine Below.drew ?_ | refine Below.next ?_ (below_a1 _) | refine Below.next ?_ hbA.out)); done))).mono ?_; rintro e' wB ⟨rB, rfl, hRB, hbB0⟩; obtain ⟨aB, cB, rwB, rfl, hjk⟩ := hRB.open; clear hjk; have hRB := hd hRB; have hbB := hd hbB0; have kB := hd (fun b v (h : BoxN _ b v) => BoxN.below (b := b) (cs := v) h hbB0); clear hbB0; have p0B := keepCell hbB.out (show World.cell? _ ⟨w.heap.size, 0, none⟩ = some (.slice a0 l0.length c0) from (by first | exact p0 | exact p0a | exact p0A | exact p0Aa)); have p0Ba := keepCell (below_a1 wB (a := (.cells #[.int .i64 0, .string ⟨#[]⟩, .int .i64 0, .bool false, .int .i64 0, .slice none 0 0] 74))) p0B; have p1B := keepCell hbB.out (show World.cell? _ ⟨w.heap.size + 1, 0, none⟩ = some (.slice a1 l1.length c1) from (by first | exact p1 | exact p1a | exact p1A | exact p1Aa)); have p1Ba := keepCell (below_a1 wB (a := (.cells #[.int .i64 0, .string ⟨#[]⟩, .int .i64 0, .bool false, .int .i64 0, .slice none 0 0] 74))) p1B)
          | (go_at_call 62; refine (cj.out _ _ _ _ _ _ _ (show Below wA.heap.size wA _ from (by (repeat (first | exact Below.refl _ _ | refine Below.drew ?_ | refine Below.next ?_ (below_a1 _) | refine Below.next ?_ hbB.out)); done)).size (show Below wB.heap.size wB _ from (by (repeat (first | exact Below.refl _ _ | refine Below.drew ?_ | refine Below.next ?_ (below_a1 _) | refine Below.next ?_ hbA.out)); done)).size (hRA.out.below (Nat.le_refl _) (by (repeat (first | exact Below.refl _ _ | refine Below.drew ?_ | refine Below.next ?_ (below_a1 _) | refine Below.next ?_ hbB.out)); done)) (hRB.out.below (Nat.le_refl _) (by (repeat (first | exact Below.refl _ _ | refine Below.drew ?_ | refine Below.next ?_ (below_a1 _) | refine Below.next ?_ hbA.out)); done))).mono ?_; rintro e' wJ h5; obtain ⟨o', nm', no', mu', mo', a', n', c', rfl, hR5, hb50⟩ := JsPost.open h5; clear h5; have hJn := hd (fun E => (show JcPost (some t) w3 (wJ.alloc (.cells #[.int .i64 o', .string nm', .int .i64 no', .bool mu', .int .i64 mo', .slice a' n' c'] E)) wJ.heap.size from JcPost.new (by (repeat (first | exact Below.refl _ _ | refine Below.drew ?_ | refine Below.next ?_ (below_a1 _) | refine Below.next ?_ hbA.out | refine Below.next ?_ hbB.out)); done) hb50 hR5)); (first | (have hXz := hd (show BoxN wJ w3.heap.size [.int .i64 0, .string ⟨#[]⟩, .int .i64 0, .bool false, .int .i64 0, .slice none 0 0] from BoxN.below (by first | exact kB.out _ _ (kA.out _ _ (by first | exact BoxN.new w3 [.int .i64 0, .string ⟨#[]⟩, .int .i64 0, .bool false, .int .i64 0, .slice none 0 0] _ | exact (BoxN.new w3 [.int .i64 0, .string ⟨#[]⟩, .int .i64 0, .bool false, .int .i64 0, .slice none 0 0] _).below (Below.refl _ _).drew)) | exact kA.out _ _ (kB.out _ _ (by first | exact BoxN.new w3 [.int .i64 0, .string ⟨#[]⟩, .int .i64 0, .bool false, .int .i64 0, .slice none 0 0] _ | exact (BoxN.new w3 [.int .i64 0, .string ⟨#[]⟩, .int .i64 0, .bool false, .int .i64 0, .slice none 0 0] _).below (Below.refl _ _).drew))) hb50); have hJ5 := hd (show JcPost (some t) w3 (setCells wJ w3.heap.size 0 [.int .i64 o', .string nm', .int .i64 no', .bool mu', .int .i64 mo', .slice a' n' c']) w3.heap.size from JcPost.old (by (repeat (first | exact Below.refl _ _ | refine Below.drew ?_ | refine Below.next ?_ (below_a1 _) | refine Below.next ?_ hbA.out | refine Below.next ?_ hbB.out)); done) (by first | exact kB.out _ _ (kA.out _ _ (by first | exact BoxN.new w3 [.int .i64 0, .string ⟨#[]⟩, .int .i64 0, .bool false, .int .i64 0, .slice none 0 0] _ | exact (BoxN.new w3 [.int .i64 0, .string ⟨#[]⟩, .int .i64 0, .bool false, .int .i64 0, .slice none 0 0] _).below (Below.refl _ _).drew)) | exact kA.out _ _ (kB.out _ _ (by first | exact BoxN.new w3 [.int .i64 0, .string ⟨#[]⟩, .int .i64 0, .bool false, .int .i64 0, .slice none 0 0] _ | exact (BoxN.new w3 [.int .i64 0, .string ⟨#[]⟩, .int .i64 0, .bool false, .int .i64 0, .slice none 0 0] _).below (Below.refl _ _).drew))) (Nat.le_refl _) hb50 hR5 rfl); have k0 := hXz.out.1 0 _ rfl; have rk0 := hXz.out.2.1 0; have k1 := hXz.out.1 1 _ rfl; have rk1 := hXz.out.2.1 1; have k2 := hXz.out.1 2 _ rfl; have rk2 := hXz.out.2.1 2; have k3 := hXz.out.1 3 _ rfl; have rk3 := hXz.out.2.1 3; have k4 := hXz.out.1 4 _ rfl; have rk4 := hXz.out.2.1 4; have k5 := hXz.out.1 5 _ rfl; have rk5 := hXz.out.2.1 5; clear hXz) | (have hXz := hd (show BoxN wJ wA.heap.size [.int .i64 0, .string ⟨#[]⟩, .int .i64 0, .bool false, .int .i64 0, .slice none 0 0] from BoxN.below (by first | exact kB.out _ _ (by first | exact BoxN.new wA [.int .i64 0, .string ⟨#[]⟩, .int .i64 0, .bool false, .int .i64 0, .slice none 0 0] _ | exact (BoxN.new wA [.int .i64 0, .string ⟨#[]⟩, .int .i64 0, .bool false, .int .i64 0, .slice none 0 0] _).below (Below.refl _ _).drew) | exact (by first | exact BoxN.new wA [.int .i64 0, .string ⟨#[]⟩, .int .i64 0, .bool false, .int .i64 0, .slice none 0 0] _ | exact (BoxN.new wA [.int .i64 0, .string ⟨#[]⟩, .int .i64 0, .bool false, .int .i64 0, .slice none 0 0] _).below (Below.refl _ _).drew)) hb50); have hJ5 := hd (show JcPost (some t) w3 (setCells wJ wA.heap.size 0 [.int .i64 o', .string nm', .int .i64 no', .bool mu', .int .i64 mo', .slice a' n' c']) wA.heap.size from JcPost.old (by (repeat (first | exact Below.refl _ _ | refine Below.drew ?_ | refine Below.next ?_ (below_a1 _) | refine Below.next ?_ hbA.out | refine Below.next ?_ hbB.out)); done) (by first | exact kB.out _ _ (by first | exact BoxN.new wA [.int .i64 0, .string ⟨#[]⟩, .int .i64 0, .bool false, .int .i64 0, .slice none 0 0] _ | exact (BoxN.new wA [.int .i64 0, .string ⟨#[]⟩, .int .i64 0, .bool false, .int .i64 0, .slice none 0 0] _).below (Below.refl _ _).drew) | exact (by first | exact BoxN.new wA [.int .i64 0, .string ⟨#[]⟩, .int .i64 0, .bool false, .int .i64 0, .slice none 0 0] _ | exact (BoxN.new wA [.int .i64 0, .string ⟨#[]⟩, .int .i64 0, .bool false, .int .i64 0, .slice none 0 0] _).below (Below.refl _ _).drew)) (show Below w3.heap.size w3 wA from (by (repeat (first | exact Below.refl _ _ | refine Below.drew ?_ | refine Below.next ?_ (below_a1 _) | refine Below.next ?_ hbA.out | refine Below.next ?_ hbB.out)); done)).size hb50 hR5 rfl); have k0 := hXz.out.1 0 _ rfl; have rk0 := hXz.out.2.1 0; have k1 := hXz.out.1 1 _ rfl; have rk1 := hXz.out.2.1 1; have k2 := hXz.out.1 2 _ rfl; have rk2 := hXz.out.2.1 2; have k3 := hXz.out.1 3 _ rfl; have rk3 := hXz.out.2.1 3; have k4 := hXz.out.1 4 _ rfl; have rk4 := hXz.out.2.1 4; have k5 := hXz.out.1 5 _ rfl; have rk5 := hXz.out.2.1 5; clear hXz) | (have hXz := hd (show BoxN wJ wB.heap.size [.int .i64 0, .string ⟨#[]⟩, .int .i64 0, .bool false, .int .i64 0, .slice none 0 0] from BoxN.below (by first | exact kA.out _ _ (by first | exact BoxN.new wB [.int .i64 0, .string ⟨#[]⟩, .int .i64 0, .bool false, .int .i64 0, .slice none 0 0] _ | exact (BoxN.new wB [.int .i64 0, .string ⟨#[]⟩, .int .i64 0, .bool false, .int .i64 0, .slice none 0 0] _).below (Below.refl _ _).drew) | exact (by first | exact BoxN.new wB [.int .i64 0, .string ⟨#[]⟩, .int .i64 0, .bool false, .int .i64 0, .slice none 0 0] _ | exact (BoxN.new wB [.int .i64 0, .string ⟨#[]⟩, .int .i64 0, .bool false, .int .i64 0, .slice none 0 0] _).below (Below.refl _ _).drew)) hb50); have hJ5 := hd (show JcPost (some t) w3 (setCells wJ wB.heap.size 0 [.int .i64 o', .string nm', .int .i64 no', .bool mu', .int .i64 mo', .slice a' n' c']) wB.heap.size from JcPost.old (by (repeat (first | exact Below.refl _ _ | refine Below.drew ?_ | refine Below.next ?_ (below_a1 _) | refine Below.next ?_ hbA.out | refine Below.next ?_ hbB.out)); done) (by first | exact kA.out _ _ (by first | exact BoxN.new wB [.int .i64 0, .string ⟨#[]⟩, .int .i64 0, .bool false, .int .i64 0, .slice none 0 0] _ | exact (BoxN.new wB [.int .i64 0, .string ⟨#[]⟩, .int .i64 0, .bool false, .int .i64 0, .slice none 0 0] _).below (Below.refl _ _).drew) | exact (by first | exact BoxN.new wB [.int .i64 0, .string ⟨#[]⟩, .int .i64 0, .bool false, .int .i64 0, .slice none 0 0] _ | exact (BoxN.new wB [.int .i64 0, .string ⟨#[]⟩, .int .i64 0, .bool false, .int .i64 0, .slice none 0 0] _).below (Below.refl _ _).drew)) (show Below w3.heap.size w3 wB from (by (repeat (first | exact Below.refl _ _ | refine Below.drew ?_ | refine Below.next ?_ (below_a1 _) | refine Below.next ?_ hbB.out | refine Below.next ?_ hbA.out)); done)).size hb50 hR5 rfl); have k0 := hXz.out.1 0 _ rfl; have rk0 := hXz.out.2.1 0; have k1 := hXz.out.1 1 _ rfl; have rk1 := hXz.out.2.1 1; have k2 := hXz.out.1 2 _ rfl; have rk2 := hXz.out.2.1 2; have k3 := hXz.out.1 3 _ rfl; have rk3 := hXz.out.2.1 3; have k4 := hXz.out.1 4 _ rfl; have rk4 := hXz.out.2.1 4; have k5 := hXz.out.1 5 _ rfl; have rk5 := hXz.out.2.1 5; clear hXz) | skip); clear hb50 hR5)))
        all_goals
          clear hbA hbB hRA hRB kA kB p0 p1 p0a p1a p0A p1A p0B p1B p0Aa p1Aa p0Ba p1Ba rA0 rB0 cj hB
          go_wp2_with fail
          go_meet
          first
          | exact ⟨_, rfl, rfl, hd hJ5.out⟩
          | exact ⟨_, rfl, rfl, hd (hJn.out _)⟩
      case rest =>
        obtain ⟨b7, rfl, rfl, hJc⟩ := hcut
        obtain ⟨w9, hw9⟩ : ∃ w9, w9 = wc := ⟨_, rfl⟩
        subst hw9
        obtain ⟨o', nm', no', mu', mo', a', n', c', hb7, hX7, hb9, hR9⟩ := hJc.out
        have cs := hd (tell_s t _ w9 _ _ (Nat.le_refl _) hgd.out (hR9 t rfl))
        replace hX7 := hd hX7
        have hx9 := hd (hx3.out.below hb9)
        have hB9 := hd (hB.out.next hb9)
        have k0 := hX7.out.1 0 _ rfl; have k1 := hX7.out.1 1 _ rfl; have k2 := hX7.out.1 2 _ rfl; have k3 := hX7.out.1 3 _ rfl; have k4 := hX7.out.1 4 _ rfl; have k5 := hX7.out.1 5 _ rfl
        clear hb9 hR9 hJc hx3 hB p0 p1 p0a p1a rA0 rB0 cj
        go_wp2_with fail
        refine cs.out.mono ?_
        rintro e6 w6 ⟨v6, rb6, rfl, ho6, hb6⟩
        have hx6 := hd (hx9.out.below hb6)
        have hB6 := hd (hB9.out.next hb6)
        have hz9 := hB9.out.size
        have hz8 := hx9.out.lt
        rw [← hrr.out] at ho6
        obtain ⟨a6, c6, rfl, hjk⟩ := ho6.sl
        clear hjk
        have hle := congrArg List.length hrr.out
        simp only [List.length_map] at ho6 ⊢
        have Q1 := hx6.out.1; have Q2 := hx6.out.2
        replace ho6 := hd ho6
        clear hb6
        go_wp2_with fail
        refine bodyPost_ret (v := .tuple #[.agg #[.slice a6 r.length c6], .bool true]) (by simp [results, Try.results21, go_sem, Q1, hle]) rfl ?_
        rw [hbt.out]
        exact AggbPost.of (rb := rb6) (ownR_store ho6.out (by first | omega | (simp; omega)) (by first | omega | (simp; omega))) (hB6.out.setCell (by show w.heap.size ≤ w.heap.size + 1 + 1; omega) _)
end Go.Proofs.Ytobahkjbadamhaa
