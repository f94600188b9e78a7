/- Whether two terms are the same: same of the program, by slices.EqualFunc. -/
import Derived.Test.YtbjilpemckoioaaSame
namespace Go.Proofs.Ytbjilpemckoioaa
open Go.RowKit
set_option linter.unusedVariables false
set_option maxRecDepth 100000
set_option maxHeartbeats 3200000 in
theorem equal_i (pa pb : List K) (va vb : List Value) (a b : Option Addr) (ca cb : Nat) (w : World) (S S' : Nat → Prop) (hS : ∀ k, S k → k < w.heap.size) (hS' : ∀ k, S' k → k < w.heap.size) (hla : pa.length ≤ 1000000) (hlb : pb.length ≤ 1000000) (hA : PSlS w S (.slice a pa.length ca) va) (hB : PSlS w S' (.slice b pb.length cb) vb) (hva : va.length = pa.length) (hvb : vb.length = pb.length)
    (hp : ∀ v ∈ va, ∃ k, v = .pointer (some ⟨k, 0, none⟩)) (hq : ∀ v ∈ vb, ∃ k, v = .pointer (some ⟨k, 0, none⟩))
    (hc : ∀ k (h : k < pa.length) (h' : k < pb.length) (h1 : k < va.length) (h2 : k < vb.length) (w' : World), Below w.heap.size w w' → ∀ g : Bool, (g = true ↔ pa[k] = pb[k]) → Calls Try.prog 113 #[va[k], vb[k]] w' (BoolPost g w')) (g : Bool) (hg : g = true ↔ pa = pb) :
    Calls Try.prog 154 #[.slice a pa.length ca, .slice b pb.length cb, .func (.func 113) #[] #[]] w (BoolPost g w) := by
  have hc := hd hc
  have hp := hd hp
  have hq := hd hq
  have hyes := hd hg.2
  have hne := hd (fun (h : pa ≠ pb) => (show g = false from by
    cases hgg : g with
    | false => rfl
    | true => exact absurd (hg.1 hgg) h))
  have hnl := hd (fun (h : pa.length ≠ pb.length) => hne.out (fun e => h (by rw [e])))
  clear hg
  have hbl0 := hd (Below.refl w.heap.size w)
  go_enter Try.func154, Try.ntmps154
  by_cases h3 : pa.length = pb.length
  · have h3b : ((pa.length : Int) != (pb.length : Int)) = false := by rw [bne_eq_false_iff_eq]; omega
    replace h3 := hd h3
    go_wp2_with fail
    go_loopw [17] (fun n wr => ∃ k : Nat, n = .int .i64 k ∧ k ≤ pa.length ∧ Hd (∀ i (h : i < pa.length) (h' : i < pb.length), i < k → pa[i] = pb[i]) ∧ Hd (Below w.heap.size w wr)) (fun n _ => pa.length - (intOf n).toNat)
    case atStart => exact ⟨0, rfl, Nat.zero_le _, fun i _ _ h => by omega, Below.refl _ _⟩
    case round =>
      obtain ⟨k, rfl, hk, hok, hbl⟩ := hrel
      obtain ⟨wo, rfl⟩ : ∃ wo : World, wo = wr := ⟨_, rfl⟩
      by_cases hlt : k < pa.length
      · have hltI : (k : Int) < (pa.length : Int) := by omega
        have hltb : k < pb.length := by have := h3.out; omega
        have hltJ : (k : Int) < (pb.length : Int) := by omega
        obtain ⟨b1, rfl, hb1, hc1⟩ := hA.at (j := k) (by omega)
        obtain ⟨b2, rfl, hb2, hc2⟩ := hB.at (j := k) (by omega)
        have q1 := keepCell hbl.out (hc1 k (by omega))
        have q2 := keepCell hbl.out (hc2 k (by omega))
        obtain ⟨gk, hgk⟩ := boolOf (pa[k] = pb[k])
        have ck := hd (hc.out k hlt hltb (by omega) (by omega) wo hbl.out gk hgk)
        obtain ⟨k1, e1⟩ := hp.out (va[k]'(by omega)) (List.getElem_mem _)
        obtain ⟨k2, e2⟩ := hq.out (vb[k]'(by omega)) (List.getElem_mem _)
        rw [e1] at q1 ck
        rw [e2] at q2 ck
        have hstep := hd (fun (e : gk = true) => (show ∀ i (h : i < pa.length) (h' : i < pb.length), i < k + 1 → pa[i] = pb[i] from fun i h1 h2 h3 => by
          by_cases e2 : i = k
          · subst e2; exact hgk.1 e
          · exact hok.out i h1 h2 (by omega)))
        have hstop := hd (fun (e : gk = false) => hne.out (fun q => by
          have : pa[k] = pb[k] := by simp only [q]
          rw [hgk.2 this] at e; cases e))
        clear hc1 hc2 hgk e1 e2
        go_wp2_with fail
        refine ck.out.mono ?_
        rintro e w6 ⟨rfl, hb6⟩
        have hbl6 := hd (hbl.out.next hb6)
        clear hb6
        cases gk with
        | true =>
          have hnx := hd (hstep.out rfl)
          go_wp2_with fail
          go_roundw
          case rel => exact ⟨k + 1, by go_num, by omega, hnx, hbl6⟩
          case measure => simp [intOf]; omega
        | false =>
          have hgf := hd (hstop.out rfl)
          go_wp2_with fail
          go_ret
          exact ⟨(by rw [hgf.out] <;> rfl), hbl6.out⟩
      · obtain rfl : k = pa.length := by omega
        have hltI : ¬ (pa.length : Int) < (pa.length : Int) := by omega
        have hz4 := hd (hyes.out (parts_eq h3.out hok.out))
        go_wp2_with fail
        go_ret
        exact ⟨(by rw [hz4.out] <;> rfl), hbl.out⟩
  · have h3b : ((pa.length : Int) != (pb.length : Int)) = true := by rw [bne_iff_ne]; omega
    have hgf := hd (hnl.out h3)
    go_wp2_with fail
    go_ret
    exact ⟨(by rw [hgf.out] <;> rfl), hbl0.out⟩
set_option maxHeartbeats 6400000 in
theorem same_i (a : K) : ∀ (b : K) (va vb : Value) (w : World) (S S' : Nat → Prop), (∀ k, S k → k < w.heap.size) → (∀ k, S' k → k < w.heap.size) → countK a ≤ 1000000 → countK b ≤ 1000000 → TmP a → TmP b → RepY HT w S a va → RepY HT w S' b vb → ∀ g : Bool, (g = true ↔ a = b) →
    Calls Try.prog 113 #[va, vb] w (BoolPost g w) := by
  refine K.ind2 (P := fun a => ∀ (b : K) (va vb : Value) (w : World) (S S' : Nat → Prop), (∀ k, S k → k < w.heap.size) → (∀ k, S' k → k < w.heap.size) → countK a ≤ 1000000 → countK b ≤ 1000000 → TmP a → TmP b → RepY HT w S a va → RepY HT w S' b vb → ∀ g : Bool, (g = true ↔ a = b) →
    Calls Try.prog 113 #[va, vb] w (BoolPost g w)) ?_ a
  intro a ih b va vb w S S' hS hS' hca hcb hpa hpb hA hB g hg
  obtain ⟨bA, aA, cA, vsA, rfl, hbA, hxA, hSA, hlA, hgA⟩ := hA.open
  obtain ⟨bB, aB, cB, vsB, rfl, hbB, hxB, hSB, hlB, hgB⟩ := hB.open
  have hla : a.parts.length ≤ 1000000 := by have h1 := len_count a.parts; have h2 := countK_eq a; omega
  have hlb : b.parts.length ≤ 1000000 := by have h1 := len_count b.parts; have h2 := countK_eq b; omega
  have ce := hd (fun (w' : World) (hw : Below w.heap.size w w') (g' : Bool) (hg' : g' = true ↔ a.parts = b.parts) => equal_i a.parts b.parts vsA vsB aA aB cA cB w' S S' (fun q h => Nat.lt_of_lt_of_le (hS q h) hw.size) (fun q h => Nat.lt_of_lt_of_le (hS' q h) hw.size) hla hlb (hSA.same (SameS.below hw hS) (fun _ h => h)) (hSB.same (SameS.below hw hS') (fun _ h => h)) hlA hlB
    (fun v hv => by
      obtain ⟨j, hj, rfl⟩ := List.getElem_of_mem hv
      obtain ⟨k, _, _, _, e, _⟩ := (hgA j (by omega) hj).open
      exact ⟨k, e⟩)
    (fun v hv => by
      obtain ⟨j, hj, rfl⟩ := List.getElem_of_mem hv
      obtain ⟨k, _, _, _, e, _⟩ := (hgB j (by omega) hj).open
      exact ⟨k, e⟩)
    (fun k h h' h1 h2 w2 hw2 g2 hg2 => ih a.parts[k] (List.getElem_mem h) b.parts[k] _ _ w2 S S' (fun q h => Nat.lt_of_lt_of_le (hS q h) (hw.next hw2).size) (fun q h => Nat.lt_of_lt_of_le (hS' q h) (hw.next hw2).size)
      (by have h1 := count_part (List.getElem_mem h); have h2 := countK_eq a; omega) (by have h1 := count_part (List.getElem_mem h'); have h2 := countK_eq b; omega) (hpa.part (List.getElem_mem h)) (hpb.part (List.getElem_mem h'))
      (RepY.same (SameS.below (hw.next hw2) hS) (fun _ h => h) _ _ (hgA k h h1)) (RepY.same (SameS.below (hw.next hw2) hS') (fun _ h => h) _ _ (hgB k h' h2)) g2 hg2) g' hg')
  have x0 := cellB (hxA 0 _ rfl)
  have x1 := cellB (hxA 1 _ rfl)
  have x2 := cellB (hxA 2 _ rfl)
  have y0 := cellB (hxB 0 _ rfl)
  have y1 := cellB (hxB 1 _ rfl)
  have y2 := cellB (hxB 2 _ rfl)
  have hyes := hd (fun h1 h2 h3 => (hg.2 (TmP.ext hpa hpb h1 h2 h3)))
  have hne1 := hd (fun (h : a.of ≠ b.of) => same_false hg (fun e => h (by rw [e])))
  have hne2 := hd (fun (h : a.name ≠ b.name) => same_false hg (fun e => h (by rw [e])))
  have hne4 := hd (fun (h : a.parts ≠ b.parts) => same_false hg (fun e => h (by rw [e])))
  have hmx : Try.prog.follows .mixedOrders = true := by kernel_rfl
  clear hA hB hpa hpb hca hcb hg hxA hxB hSA hSB hgA hgB ih hlA hlB hbA hbB
  change ∀ p : BB w, p.v.cell? ⟨bA, 0, none⟩ = some (.int .i64 a.of) at x0
  change ∀ p : BB w, p.v.cell? ⟨bA, 1, none⟩ = some (.string a.name) at x1
  change ∀ p : BB w, p.v.cell? ⟨bB, 0, none⟩ = some (.int .i64 b.of) at y0
  change ∀ p : BB w, p.v.cell? ⟨bB, 1, none⟩ = some (.string b.name) at y1
  obtain ⟨gp, hgp⟩ := boolOf (a.parts = b.parts)
  replace ce := hd (fun w' hw => ce.out w' hw gp hgp)
  have hyes2 := hd (fun (h1 : a.of = b.of) (h2 : a.name = b.name) => (show g = gp from by
    cases gp with
    | true => exact hyes.out h1 h2 (hgp.1 rfl)
    | false => exact hne4.out (fun e => by have := hgp.2 e; cases this)))
  clear hgp hyes hne4
  generalize a.of = vA at *
  generalize a.name = nA at *
  generalize b.of = vB at *
  generalize b.name = nB at *
  go_enter Try.func113, Try.ntmps113
  by_cases h1 : vA = vB
  · subst h1
    by_cases h2 : nA = nB
    · subst h2
      have hgf := hd (hyes2.out rfl rfl)
      go_wp2_with fail
      refine wp_region_below hmx (by kernel_rfl) ?_
      repeat (go_big_quiet_step ((go_at_call 154; refine callsB (ce.out _ (BB.h _)))))
      refine wpQuiet_nil ?_
      intro _ hw'
      obtain ⟨⟨wq, hbq⟩, hw''⟩ := hw'
      subst hw''
      have hbl6 := hd hbq
      go_wp2_with fail
      go_ret
      exact ⟨(by rw [hgf.out] <;> rfl), hbl6.out⟩
    · have h2b : (nA.toList == nB.toList) = false := by
        rw [beq_eq_false_iff_ne]
        exact fun e => h2 (ByteArray.ext (Array.toList_inj.1 (by rw [← ByteArray.toList_eq, ← ByteArray.toList_eq]; exact e)))
      have hgf := hd (hne2.out h2)
      go_wp2_with fail
      refine wp_region_below hmx (by kernel_rfl) ?_
      repeat (go_big_quiet_step ((fail)))
      refine wpQuiet_nil ?_
      intro _ hw'
      obtain ⟨⟨wq, hbq⟩, hw''⟩ := hw'
      subst hw''
      have hbl6 := hd hbq
      go_wp2_with fail
      go_ret
      exact ⟨(by rw [hgf.out] <;> rfl), hbl6.out⟩
  · have h1b : (vA == vB) = false := by simpa using h1
    have hgf := hd (hne1.out h1)
    go_wp2_with fail
    refine wp_region_below hmx (by kernel_rfl) ?_
    repeat (go_big_quiet_step ((fail)))
    refine wpQuiet_nil ?_
    intro _ hw'
    obtain ⟨⟨wq, hbq⟩, hw''⟩ := hw'
    subst hw''
    have hbl6 := hd hbq
    go_wp2_with fail
    go_ret
    exact ⟨(by rw [hgf.out] <;> rfl), hbl6.out⟩
end Go.Proofs.Ytbjilpemckoioaa
