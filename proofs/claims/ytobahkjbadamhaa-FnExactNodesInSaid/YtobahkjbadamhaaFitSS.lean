/- FitsSchema of the reference; NodesIn of both sides. -/
import Derived.Test.YtobahkjbadamhaaFitV
import Derived.Test.YtobahkjbadamhaaNodes
namespace Go.Proofs.Ytobahkjbadamhaa
open Go.RowKit
set_option linter.unusedVariables false
set_option maxRecDepth 100000
theorem rootV_s (l : List DNode) (vv : Value) (w : World) (hl : l.length ≤ 1000000) (hn : nodesP l) (v : K) (hv : enc (trees l) v 0 l.length) (h : Sl w vv 5 (l.map DNode.enc)) :
    Calls Try.prog 74 #[.agg #[vv], .int .i64 0] w (XPost HV 5 v w) := by
  have h0 := hn.1.1
  rcases h.open with ⟨a1, c1, rfl, hrr⟩ | ⟨b1, o1, c, rfl, hrr, C⟩
  · exfalso; have : l = [] := by simpa using hrr
    subst this; simp at h0
  · rw [List.length_map]
    have hv' : enc (trees l) v 0 (trees l).length := by rw [trees_len]; exact hv
    have := enc_count v _ _ hv
    exact treeV_s l b1 o1 c hl v 0 w (enc_out hv') C (by omega)
theorem small_nodes {l : List DNode} {b : Int} (hb : b ≤ 1048576) (h : SmallNode b l.length l) : ∀ x ∈ l, x.text.size ≤ 1000000000000 := by
  intro x hx
  obtain ⟨i, hi, rfl⟩ := List.mem_iff_getElem.1 hx
  have := h i hi hi
  omega
theorem small_typesC {l : List DType} {b : Int} (hb : b ≤ 1048576) (h : SmallType b l.length l) : ∀ x ∈ l, x.name.size ≤ 1000000000000 := by
  intro x hx
  obtain ⟨i, hi, rfl⟩ := List.mem_iff_getElem.1 hx
  have := h i hi hi
  omega
theorem namesV {l : List DNode} (hs : ∀ x ∈ l, x.text.size ≤ 1000000000000) {v : K} {a e : Nat} (h : enc (trees l) v a e) : nmOK v :=
  names_ok (l := trees l) (fun x hx => by obtain ⟨y, hy, rfl⟩ := List.mem_map.1 hx; exact hs y hy) h
set_option maxHeartbeats 6400000 in
theorem FitsSchema_s (ln : List DNode) (l : List DType) (vv v : Value) (w : World) (hln : ln.length ≤ 1000000000) (hl : l.length ≤ 1000000000) (hnm : ∀ x ∈ ln, x.text.size ≤ 1000000000000) (hs : ∀ x ∈ l, x.name.size ≤ 1000000000000) (hV : Sl w vv 5 (ln.map DNode.enc)) (h : Sl w v 6 (l.map DType.enc)) (r : Bool) (hr : r = true ↔ fitP ln l) :
    Calls Try.prog 29 #[.agg #[vv], .agg #[v]] w (BoolPost r w) := by
  obtain ⟨g, hg⟩ := boolOf (goodP l)
  obtain ⟨n, hn⟩ := boolOf (nodesP ln)
  have ck := hd (fun w' (hbb : Below w.heap.size w w') => GoodSchema_s l v w' (by omega) hs (h.mono hbb) g hg)
  have cn := hd (fun w' (hbb : Below w.heap.size w w') => nodes_s ln vv w' hln (hV.mono hbb) n hn)
  have r0 := hd (fun w' (hbb : Below w.heap.size w w') hq t ht => root_s l v w' hq t ht (h.mono hbb))
  have r1 := hd (fun w' (hbb : Below w.heap.size w w') (hll : ln.length ≤ 1000000) hq t ht => rootV_s ln vv w' hll hq t ht (hV.mono hbb))
  obtain ⟨a1, c1, rfl, -⟩ := h
  obtain ⟨av, cv, rfl, -⟩ := hV
  simp only [List.length_map] at ck cn r0 r1 ⊢
  replace hr := hd hr
  have hB := hd (below_a2 w (a := .cells #[.slice av ln.length cv] 39) (b := .cells #[.slice a1 l.length c1] 28))
  have qv := hd (show ((w.alloc (.cells #[.slice av ln.length cv] 39)).alloc (.cells #[.slice a1 l.length c1] 28)).cell? ⟨w.heap.size, 0, none⟩ = some (.slice av ln.length cv) by go_simp)
  have qs := hd (show ((w.alloc (.cells #[.slice av ln.length cv] 39)).alloc (.cells #[.slice a1 l.length c1] 28)).cell? ⟨w.heap.size + 1, 0, none⟩ = some (.slice a1 l.length c1) by go_simp)
  cases g with
  | false =>
    have hres := hd (nb hr.out (fun q => absurd (hg.2 q.1) (by simp)))
    clear hg hn
    go_enter Try.func29, Try.ntmps29
    go_upto_region 1 with (fail)
    generalize (w.alloc (.cells #[.slice av ln.length cv] 39)).alloc (.cells #[.slice a1 l.length c1] 28) = W at *
    have qv0 := qv.out
    have qs0 := qs.out
    refine wp_region_held_drew (S := (fun w' => w'.cell? ⟨w.heap.size, 0, none⟩ = some (.slice av ln.length cv) ∧ w'.cell? ⟨w.heap.size + 1, 0, none⟩ = some (.slice a1 l.length c1))) (by kernel_rfl) ?_ (fun hHeld => ?_)
    · first | (refine ⟨?_, ?_⟩ <;> assumption) | go_keep
    refine wpAnyH_take (i := 0) (v := ?v0b) rfl (by kernel_rfl) (by kernel_rfl) (by kernel_rfl) (fun _ _ _ h => h) (Or.inl ⟨by rfl, ?hy0b⟩) (by assumption) ?rest0b
    case hy0b => (intro w hSw; (try dsimp only at hSw); first | (go_simp; done) | (go_simp; with_reducible rfl))
    try simp only [Act.put, List.getElem_toArray, List.getElem_cons_zero, List.setIfInBounds_toArray, List.set_cons_zero, List.set_cons_succ]
    refine wpAnyH_ready (rs := [1]) (by kernel_rfl) (by simp) ?_
    refine AllReadyH.cons (o := _) rfl (fun K hK => ?_) AllReadyH.nil
    go_simp
    go_at_call 50; refine (ck.out _ hB.out.drew).mono ?_; rintro e w2 ⟨rfl, hb2⟩
    try go_simp
    refine hK.out _ _ ?_ (fun hHeld => ?_)
    · obtain ⟨kk0, kk1⟩ := hHeld; exact ⟨keepCell hb2 kk0, keepCell hb2 kk1⟩
    clear hK K
    try simp only [Act.put, List.getElem_toArray, List.getElem_cons_succ, List.getElem_cons_zero, List.setIfInBounds_toArray, List.set_cons_zero, List.set_cons_succ]
    refine wpAnyH_take (i := 2) (v := ?v2b) rfl (by kernel_rfl) (by kernel_rfl) (by kernel_rfl) (fun _ _ _ h => h) (Or.inl ⟨by rfl, ?hy2b⟩) (by assumption) ?rest2b
    case hy2b => (intro w hSw; (try dsimp only at hSw); first | (go_simp; done) | (go_simp; with_reducible rfl))
    try simp only [Act.put, List.getElem_toArray, List.getElem_cons_succ, List.getElem_cons_zero, List.setIfInBounds_toArray, List.set_cons_zero, List.set_cons_succ]
    refine wpAnyH_take (i := 3) (v := undef) rfl (by kernel_rfl) (by kernel_rfl) (by kernel_rfl) (fun _ _ _ h => h) (Or.inr ⟨by rfl, rfl⟩) (by assumption) ?_
    try simp only [Act.put, List.getElem_toArray, List.getElem_cons_succ, List.getElem_cons_zero, List.setIfInBounds_toArray, List.set_cons_zero, List.set_cons_succ]
    refine wpAnyH_take (i := 4) (v := undef) rfl (by kernel_rfl) (by kernel_rfl) (by kernel_rfl) (fun _ _ _ h => h) (Or.inr ⟨by rfl, rfl⟩) (by assumption) ?_
    try simp only [Act.put, List.getElem_toArray, List.getElem_cons_succ, List.getElem_cons_zero, List.setIfInBounds_toArray, List.set_cons_zero, List.set_cons_succ]
    refine wpAnyH_take (i := 5) (v := ?v5b) rfl (by kernel_rfl) (by kernel_rfl) (by kernel_rfl) (fun _ _ _ h => h) (Or.inl ⟨by rfl, ?hy5b⟩) (by assumption) ?rest5b
    case hy5b => (intro w hSw; (try dsimp only at hSw); first | (go_simp; done) | (go_simp; with_reducible rfl))
    try simp only [Act.put, List.getElem_toArray, List.getElem_cons_succ, List.getElem_cons_zero, List.setIfInBounds_toArray, List.set_cons_zero, List.set_cons_succ]
    refine wpAnyH_take (i := 6) (v := ?v6b) rfl (by kernel_rfl) (by kernel_rfl) (by kernel_rfl) (fun _ _ _ h => h) (Or.inl ⟨by rfl, ?hy6b⟩) (by assumption) ?rest6b
    case hy6b => (intro w hSw; (try dsimp only at hSw); first | (go_simp; done) | (go_simp; with_reducible rfl))
    try simp only [Act.put, List.getElem_toArray, List.getElem_cons_succ, List.getElem_cons_zero, List.setIfInBounds_toArray, List.set_cons_zero, List.set_cons_succ]
    refine wpAnyH_take (i := 7) (v := undef) rfl (by kernel_rfl) (by kernel_rfl) (by kernel_rfl) (fun _ _ _ h => h) (Or.inr ⟨by rfl, rfl⟩) (by assumption) ?_
    try simp only [Act.put, List.getElem_toArray, List.getElem_cons_succ, List.getElem_cons_zero, List.setIfInBounds_toArray, List.set_cons_zero, List.set_cons_succ]
    refine wpAnyH_take (i := 8) (v := undef) rfl (by kernel_rfl) (by kernel_rfl) (by kernel_rfl) (fun _ _ _ h => h) (Or.inr ⟨by rfl, rfl⟩) (by assumption) ?_
    try simp only [Act.put, List.getElem_toArray, List.getElem_cons_succ, List.getElem_cons_zero, List.setIfInBounds_toArray, List.set_cons_zero, List.set_cons_succ]
    refine wpAnyH_take (i := 9) (v := undef) rfl (by kernel_rfl) (by kernel_rfl) (by kernel_rfl) (fun _ _ _ h => h) (Or.inr ⟨by rfl, rfl⟩) (by assumption) ?_
    try simp only [Act.put, List.getElem_toArray, List.getElem_cons_succ, List.getElem_cons_zero, List.setIfInBounds_toArray, List.set_cons_zero, List.set_cons_succ]
    refine wpAnyH_take (i := 10) (v := undef) rfl (by kernel_rfl) (by kernel_rfl) (by kernel_rfl) (fun _ _ _ h => h) (Or.inr ⟨by rfl, rfl⟩) (by assumption) ?_
    try simp only [Act.put, List.getElem_toArray, List.getElem_cons_succ, List.getElem_cons_zero, List.setIfInBounds_toArray, List.set_cons_zero, List.set_cons_succ]
    refine wpAnyH_take (i := 11) (v := undef) rfl (by kernel_rfl) (by kernel_rfl) (by kernel_rfl) (fun _ _ _ h => h) (Or.inr ⟨by rfl, rfl⟩) (by assumption) ?_
    try simp only [Act.put, List.getElem_toArray, List.getElem_cons_succ, List.getElem_cons_zero, List.setIfInBounds_toArray, List.set_cons_zero, List.set_cons_succ]
    refine wpAnyH_take (i := 12) (v := ?v12b) rfl (by kernel_rfl) (by kernel_rfl) (by kernel_rfl) (fun _ _ _ h => h) (Or.inl ⟨by rfl, ?hy12b⟩) (by assumption) ?rest12b
    case hy12b => (intro w hSw; (try dsimp only at hSw); first | (go_simp; done) | (go_simp; with_reducible rfl))
    try simp only [Act.put, List.getElem_toArray, List.getElem_cons_succ, List.getElem_cons_zero, List.setIfInBounds_toArray, List.set_cons_zero, List.set_cons_succ]
    refine wpAnyH_take (i := 13) (v := ?v13b) rfl (by kernel_rfl) (by kernel_rfl) (by kernel_rfl) (fun _ _ _ h => h) (Or.inl ⟨by rfl, ?hy13b⟩) (by assumption) ?rest13b
    case hy13b => (intro w hSw; (try dsimp only at hSw); first | (go_simp; done) | (go_simp; with_reducible rfl))
    try simp only [Act.put, List.getElem_toArray, List.getElem_cons_succ, List.getElem_cons_zero, List.setIfInBounds_toArray, List.set_cons_zero, List.set_cons_succ]
    refine wpAnyH_done (by kernel_rfl) ?_ _
    have hb10 := hd (hB.out.drew.next hb2)
    go_wp2_with fail
    go_ret
    exact ⟨by rw [hres.out]; rfl, hb10.out⟩
  | true =>
    have hgp := hg.1 rfl
    cases n with
    | false =>
      have hres := hd (nb hr.out (fun q => by
        obtain ⟨_, t, ht, hf⟩ := q
        exact absurd (hn.2 ((nodes_tree ln).2 ⟨hf.1, hf.2.choose, hf.2.choose_spec.1⟩)) (by simp)))
      clear hg hn
      go_enter Try.func29, Try.ntmps29
      go_upto_region 1 with (fail)
      generalize (w.alloc (.cells #[.slice av ln.length cv] 39)).alloc (.cells #[.slice a1 l.length c1] 28) = W at *
      have qv0 := qv.out
      have qs0 := qs.out
      refine wp_region_held_drew (S := (fun w' => w'.cell? ⟨w.heap.size, 0, none⟩ = some (.slice av ln.length cv) ∧ w'.cell? ⟨w.heap.size + 1, 0, none⟩ = some (.slice a1 l.length c1))) (by kernel_rfl) ?_ (fun hHeld => ?_)
      · first | (refine ⟨?_, ?_⟩ <;> assumption) | go_keep
      refine wpAnyH_take (i := 0) (v := ?v0c) rfl (by kernel_rfl) (by kernel_rfl) (by kernel_rfl) (fun _ _ _ h => h) (Or.inl ⟨by rfl, ?hy0c⟩) (by assumption) ?rest0c
      case hy0c => (intro w hSw; (try dsimp only at hSw); first | (go_simp; done) | (go_simp; with_reducible rfl))
      try simp only [Act.put, List.getElem_toArray, List.getElem_cons_zero, List.setIfInBounds_toArray, List.set_cons_zero, List.set_cons_succ]
      refine wpAnyH_ready (rs := [1]) (by kernel_rfl) (by simp) ?_
      refine AllReadyH.cons (o := _) rfl (fun K hK => ?_) AllReadyH.nil
      go_simp
      go_at_call 50; refine (ck.out _ hB.out.drew).mono ?_; rintro e w2 ⟨rfl, hb2⟩
      try go_simp
      refine hK.out _ _ ?_ (fun hHeld => ?_)
      · obtain ⟨kk0, kk1⟩ := hHeld; exact ⟨keepCell hb2 kk0, keepCell hb2 kk1⟩
      clear hK K
      try simp only [Act.put, List.getElem_toArray, List.getElem_cons_succ, List.getElem_cons_zero, List.setIfInBounds_toArray, List.set_cons_zero, List.set_cons_succ]
      refine wpAnyH_take (i := 2) (v := ?v2c) rfl (by kernel_rfl) (by kernel_rfl) (by kernel_rfl) (fun _ _ _ h => h) (Or.inl ⟨by rfl, ?hy2c⟩) (by assumption) ?rest2c
      case hy2c => (intro w hSw; (try dsimp only at hSw); first | (go_simp; done) | (go_simp; with_reducible rfl))
      try simp only [Act.put, List.getElem_toArray, List.getElem_cons_succ, List.getElem_cons_zero, List.setIfInBounds_toArray, List.set_cons_zero, List.set_cons_succ]
      refine wpAnyH_take (i := 3) (v := ?v3c) rfl (by kernel_rfl) (by kernel_rfl) (by kernel_rfl) (fun _ _ _ h => h) (Or.inl ⟨by rfl, ?hy3c⟩) (by assumption) ?rest3c
      case hy3c => (intro w hSw; (try dsimp only at hSw); first | (go_simp; done) | (go_simp; with_reducible rfl))
      try simp only [Act.put, List.getElem_toArray, List.getElem_cons_succ, List.getElem_cons_zero, List.setIfInBounds_toArray, List.set_cons_zero, List.set_cons_succ]
      refine wpAnyH_ready (rs := [4]) (by kernel_rfl) (by simp) ?_
      refine AllReadyH.cons (o := _) rfl (fun K hK => ?_) AllReadyH.nil
      go_simp
      go_at_call 72; refine (cn.out _ (hB.out.drew.next hb2)).mono ?_; rintro e w3 ⟨rfl, hb3⟩
      try go_simp
      refine hK.out _ _ ?_ (fun hHeld => ?_)
      · obtain ⟨kk0, kk1⟩ := hHeld; exact ⟨keepCell hb3 kk0, keepCell hb3 kk1⟩
      clear hK K
      try simp only [Act.put, List.getElem_toArray, List.getElem_cons_succ, List.getElem_cons_zero, List.setIfInBounds_toArray, List.set_cons_zero, List.set_cons_succ]
      refine wpAnyH_take (i := 5) (v := ?v5c) rfl (by kernel_rfl) (by kernel_rfl) (by kernel_rfl) (fun _ _ _ h => h) (Or.inl ⟨by rfl, ?hy5c⟩) (by assumption) ?rest5c
      case hy5c => (intro w hSw; (try dsimp only at hSw); first | (go_simp; done) | (go_simp; with_reducible rfl))
      try simp only [Act.put, List.getElem_toArray, List.getElem_cons_succ, List.getElem_cons_zero, List.setIfInBounds_toArray, List.set_cons_zero, List.set_cons_succ]
      refine wpAnyH_take (i := 6) (v := ?v6c) rfl (by kernel_rfl) (by kernel_rfl) (by kernel_rfl) (fun _ _ _ h => h) (Or.inl ⟨by rfl, ?hy6c⟩) (by assumption) ?rest6c
      case hy6c => (intro w hSw; (try dsimp only at hSw); first | (go_simp; done) | (go_simp; with_reducible rfl))
      try simp only [Act.put, List.getElem_toArray, List.getElem_cons_succ, List.getElem_cons_zero, List.setIfInBounds_toArray, List.set_cons_zero, List.set_cons_succ]
      refine wpAnyH_take (i := 7) (v := undef) rfl (by kernel_rfl) (by kernel_rfl) (by kernel_rfl) (fun _ _ _ h => h) (Or.inr ⟨by rfl, rfl⟩) (by assumption) ?_
      try simp only [Act.put, List.getElem_toArray, List.getElem_cons_succ, List.getElem_cons_zero, List.setIfInBounds_toArray, List.set_cons_zero, List.set_cons_succ]
      refine wpAnyH_take (i := 8) (v := undef) rfl (by kernel_rfl) (by kernel_rfl) (by kernel_rfl) (fun _ _ _ h => h) (Or.inr ⟨by rfl, rfl⟩) (by assumption) ?_
      try simp only [Act.put, List.getElem_toArray, List.getElem_cons_succ, List.getElem_cons_zero, List.setIfInBounds_toArray, List.set_cons_zero, List.set_cons_succ]
      refine wpAnyH_take (i := 9) (v := undef) rfl (by kernel_rfl) (by kernel_rfl) (by kernel_rfl) (fun _ _ _ h => h) (Or.inr ⟨by rfl, rfl⟩) (by assumption) ?_
      try simp only [Act.put, List.getElem_toArray, List.getElem_cons_succ, List.getElem_cons_zero, List.setIfInBounds_toArray, List.set_cons_zero, List.set_cons_succ]
      refine wpAnyH_take (i := 10) (v := undef) rfl (by kernel_rfl) (by kernel_rfl) (by kernel_rfl) (fun _ _ _ h => h) (Or.inr ⟨by rfl, rfl⟩) (by assumption) ?_
      try simp only [Act.put, List.getElem_toArray, List.getElem_cons_succ, List.getElem_cons_zero, List.setIfInBounds_toArray, List.set_cons_zero, List.set_cons_succ]
      refine wpAnyH_take (i := 11) (v := undef) rfl (by kernel_rfl) (by kernel_rfl) (by kernel_rfl) (fun _ _ _ h => h) (Or.inr ⟨by rfl, rfl⟩) (by assumption) ?_
      try simp only [Act.put, List.getElem_toArray, List.getElem_cons_succ, List.getElem_cons_zero, List.setIfInBounds_toArray, List.set_cons_zero, List.set_cons_succ]
      refine wpAnyH_take (i := 12) (v := ?v12c) rfl (by kernel_rfl) (by kernel_rfl) (by kernel_rfl) (fun _ _ _ h => h) (Or.inl ⟨by rfl, ?hy12c⟩) (by assumption) ?rest12c
      case hy12c => (intro w hSw; (try dsimp only at hSw); first | (go_simp; done) | (go_simp; with_reducible rfl))
      try simp only [Act.put, List.getElem_toArray, List.getElem_cons_succ, List.getElem_cons_zero, List.setIfInBounds_toArray, List.set_cons_zero, List.set_cons_succ]
      refine wpAnyH_take (i := 13) (v := ?v13c) rfl (by kernel_rfl) (by kernel_rfl) (by kernel_rfl) (fun _ _ _ h => h) (Or.inl ⟨by rfl, ?hy13c⟩) (by assumption) ?rest13c
      case hy13c => (intro w hSw; (try dsimp only at hSw); first | (go_simp; done) | (go_simp; with_reducible rfl))
      try simp only [Act.put, List.getElem_toArray, List.getElem_cons_succ, List.getElem_cons_zero, List.setIfInBounds_toArray, List.set_cons_zero, List.set_cons_succ]
      refine wpAnyH_done (by kernel_rfl) ?_ _
      have hb10 := hd (hB.out.drew.next (hb2.next hb3))
      go_wp2_with fail
      go_ret
      exact ⟨by rw [hres.out]; rfl, hb10.out⟩
    | true =>
      have hnp := hn.1 rfl
      obtain ⟨t, ht⟩ := good_tree hgp
      obtain ⟨hhd, u, hu⟩ := (nodes_tree ln).1 hnp
      have hsm := good_small ht.2
      have hln40 : ln.length ≤ 40 := hnp.1.2
      have hcu := enc_count u _ _ hu
      have hz := hd (show r = fitsB t u by
        rw [Bool.eq_iff_iff, hr.out, fitP_of hgp ht]
        constructor
        · rintro ⟨_, v', h1, h2⟩
          have e : v' = u := by
            have e1 : enc (trees ln) v' 0 (trees ln).length := by rw [trees_len]; exact h1
            have e2 : enc (trees ln) u 0 (trees ln).length := by rw [trees_len]; exact hu
            exact Sb.uniq v' 0 u (enc_out e1) (enc_out e2)
          rw [← e]; exact h2
        · intro h; exact ⟨hhd, u, hu, h⟩)
      have cu := hd (fun (rV rT : List Value) (w' : World) (lv hv lo hi : Nat) h1 h2 hV hT => fitV_s t u rV rT w' lv hv lo hi h1 h2 (by omega) (by omega) (namesV hnm hu) ht.2.2.2.1 hV hT)
      have rA0 := hd (fun w' (hbb : Below w.heap.size w w') => r1.out w' hbb (by omega) hnp u hu)
      have rB0 := hd (fun w' (hbb : Below w.heap.size w w') => r0.out w' hbb hgp t ht)
      clear hg hn hcu hsm ht hgp hhd hu hnp r0 r1 hs hnm hl hln
      generalize fitsB t u = z at *
      go_enter Try.func29, Try.ntmps29
      go_upto_region 1 with (fail)
      generalize (w.alloc (.cells #[.slice av ln.length cv] 39)).alloc (.cells #[.slice a1 l.length c1] 28) = W at *
      have qv0 := qv.out
      have qs0 := qs.out
      go_region_held3 (fun w' => w'.cell? ⟨w.heap.size, 0, none⟩ = some (.slice av ln.length cv) ∧ w'.cell? ⟨w.heap.size + 1, 0, none⟩ = some (.slice a1 l.length c1))
        (first | go_keep | (go_split_ands; (repeat' apply And.intro) <;> first | exact keepCell hbA (by assumption) | exact keepCell hbB (by assumption) | exact keepCell hb9 (by assumption) | exact keepCell hb3 (by assumption) | exact keepCell hb2 (by assumption)))
        (first
          | (go_at_call 50; refine (ck.out _ hB.out.drew).mono ?_; rintro e w2 ⟨rfl, hb2⟩; have hBk := hd (hB.out.drew.next hb2))
          | (go_at_call 72; refine (cn.out _ hBk.out).mono ?_; rintro e w3 ⟨rfl, hb3⟩; have hBn := hd (hBk.out.next hb3))
          | (go_at_call 73; refine (cu.out rA rB _ _ _ _ _ hsA hsB hrA.out hrB.out).mono ?_; rintro e w9 ⟨rfl, hb9⟩)
          | (go_at_call 74; refine (rA0.out _ (by first | exact hBn.out | exact hBn.out.next hbB)).mono ?_; rintro e wA ⟨rA, rfl, hrA, hbA⟩; replace hrA := hd hrA; have hsA := Nat.le_refl wA.heap.size; (try replace hrB := hd (hrB.out.below (Nat.le_refl _) hbA)); (try replace hsB := Nat.le_trans hsB hbA.size))
          | (go_at_call 51; refine (rB0.out _ (by first | exact hBn.out | exact hBn.out.next hbA)).mono ?_; rintro e wB ⟨rB, rfl, hrB, hbB⟩; replace hrB := hd hrB; have hsB := Nat.le_refl wB.heap.size; (try replace hrA := hd (hrA.out.below (Nat.le_refl _) hbB)); (try replace hsA := Nat.le_trans hsA hbB.size)))
      all_goals
        have hb10 := hd (show Below w.heap.size w w9 from by first | exact hBn.out.next (hbA.next (hbB.next hb9)) | exact hBn.out.next (hbB.next (hbA.next hb9)))
        go_wp2_with fail
        go_ret
        exact ⟨by rw [hz.out]; rfl, hb10.out⟩
set_option maxHeartbeats 1600000 in
theorem NodesIn_s (ln : List DNode) (l : List DType) (vv v : Value) (w : World) (hln : ln.length ≤ 1000000000) (hl : l.length ≤ 1000000000) (hnm : ∀ x ∈ ln, x.text.size ≤ 1000000000000) (hs : ∀ x ∈ l, x.name.size ≤ 1000000000000) (hV : Sl w vv 5 (ln.map DNode.enc)) (h : Sl w v 6 (l.map DType.enc)) (b : Bool) (hb : b = true ↔ fitP ln l) (r : Int) (hr : (if b = true then (ln.length : Int) else 0) = r) :
    Calls Try.prog 32 #[.agg #[vv], .agg #[v]] w (IBPost r b w) := by
  have ck := hd (fun w' (hbb : Below w.heap.size w w') => FitsSchema_s ln l vv v w' hln hl hnm hs (hV.mono hbb) (h.mono hbb) b hb)
  obtain ⟨a1, c1, rfl, -⟩ := h
  obtain ⟨av, cv, rfl, -⟩ := hV
  simp only [List.length_map] at ck ⊢
  replace hr := hd hr
  clear hb
  cases b with
  | false =>
    have hres := hd (show r = 0 from hr.out.symm)
    go_enter Try.func32, Try.ntmps32
    go_wp2_with fail
    refine (ck.out _ (below_a2 _)).mono ?_
    rintro e w2 ⟨rfl, hb2⟩
    have hB := hd ((below_a2 w).next hb2)
    clear hb2
    go_wp2_with fail
    go_ret2
    exact ⟨by rw [hres.out]; rfl, hB.out⟩
  | true =>
    have hres := hd (show r = (ln.length : Int) from hr.out.symm)
    go_enter Try.func32, Try.ntmps32
    go_wp2_with fail
    refine (ck.out _ (below_a2 _)).mono ?_
    rintro e w2 ⟨rfl, hb2⟩
    have q0 := keepCell hb2 (show World.cell? _ ⟨w.heap.size, 0, none⟩ = some (.slice av ln.length cv) by go_simp)
    have hB := hd ((below_a2 w).next hb2)
    clear hb2
    go_wp2_with fail
    go_ret2
    exact ⟨by rw [hres.out]; rfl, hB.out⟩
set_option maxHeartbeats 1600000 in
theorem NodesIn_i (ln : List DNode) (l : List DType) (vv v : Value) (w : World) (hln : ln.length ≤ 1000000000) (hl : l.length ≤ 1000000000) (hnm : ∀ x ∈ ln, x.text.size ≤ 1000000000000) (hs : ∀ x ∈ l, x.name.size ≤ 1000000000000) (hV : Sl w vv 5 (ln.map DNode.enc)) (h : Sl w v 6 (l.map DType.enc)) (b : Bool) (hb : b = true ↔ fitP ln l) (r : Int) (hr : (if b = true then (ln.length : Int) else 0) = r) :
    Calls Try.prog 33 #[.agg #[vv], .agg #[v]] w (IBPost r b w) := by
  have ck := hd (fun w' (hbb : Below w.heap.size w w') => FitsSchema_i ln l vv v w' hln hl hnm hs (hV.mono hbb) (h.mono hbb) b hb)
  obtain ⟨a1, c1, rfl, -⟩ := h
  obtain ⟨av, cv, rfl, -⟩ := hV
  simp only [List.length_map] at ck ⊢
  replace hr := hd hr
  clear hb
  cases b with
  | false =>
    have hres := hd (show r = 0 from hr.out.symm)
    go_enter Try.func33, Try.ntmps33
    go_wp2_with fail
    refine (ck.out _ (below_a2 _)).mono ?_
    rintro e w2 ⟨rfl, hb2⟩
    have hB := hd ((below_a2 w).next hb2)
    clear hb2
    go_wp2_with fail
    go_ret2
    exact ⟨by rw [hres.out]; rfl, hB.out⟩
  | true =>
    have hres := hd (show r = (ln.length : Int) from hr.out.symm)
    go_enter Try.func33, Try.ntmps33
    go_wp2_with fail
    refine (ck.out _ (below_a2 _)).mono ?_
    rintro e w2 ⟨rfl, hb2⟩
    have q0 := keepCell hb2 (show World.cell? _ ⟨w.heap.size, 0, none⟩ = some (.slice av ln.length cv) by go_simp)
    have hB := hd ((below_a2 w).next hb2)
    clear hb2
    go_wp2_with fail
    go_ret2
    exact ⟨by rw [hres.out]; rfl, hB.out⟩
end Go.Proofs.Ytobahkjbadamhaa
