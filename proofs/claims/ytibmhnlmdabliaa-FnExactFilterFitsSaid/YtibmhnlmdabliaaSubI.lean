/- Whether each value of a type is one of another's: part and under of the program. -/
import Derived.Test.YtibmhnlmdabliaaSubM
namespace Go.Proofs.Ytibmhnlmdabliaa
open Go.RowKit
set_option linter.unusedVariables false
set_option maxRecDepth 100000
set_option maxHeartbeats 800000 in
theorem ix_pt (cv : Value) (p : KV → Bool) (l : List KV) (v : Value) (w : World) (hl : l.length ≤ 1000000000000) (h : Sl w v 1 (l.map KV.enc))
    (hp : ∀ x ∈ l, ∀ w', Below w.heap.size w w' → Calls Try.prog 146 #[x.v, cv] w' (BoolPost (p x) w')) :
    Calls Try.prog 145 #[v, .func (.func 146) #[] #[cv]] w (IntPost (fidx p l) w) := by
  replace hp := hd hp
  rcases h.open with ⟨a1, c1, rfl, hr⟩ | ⟨b1, o1, c1, rfl, hr, C1⟩
  · obtain rfl : l = [] := by simpa using hr
    go_enter Try.func145, Try.ntmps145
    go_wp2
    go_loopw [8] (fun i wr => i = .int .i64 0 ∧ wr = w) (fun _ _ => 0)
    case atStart => exact ⟨rfl, rfl⟩
    case round =>
      obtain ⟨rfl, rfl⟩ := hrel
      go_wp2_with fail
      go_ret
      exact ⟨rfl, Below.refl _ _⟩
  · clear h
    simp only [List.length_map]
    go_enter Try.func145, Try.ntmps145
    go_wp2
    go_loopw [8] (fun i wr => ∃ k : Nat, k ≤ l.length ∧ i = .int .i64 k ∧ Hd (fidx_from p l k) ∧ Hd (Below w.heap.size w wr)) (fun i _ => l.length - (intOf i).toNat)
    case atStart => exact ⟨0, Nat.zero_le _, rfl, fidx_zero p l, Below.refl _ _⟩
    case round =>
      obtain ⟨k, hk, rfl, hfx, hbl⟩ := hrel
      by_cases hlt : k < l.length
      · have f0 := Cells.rowKV l k hlt (C1.mono hbl.out)
        cases hpx : p l[k] with
        | true =>
          replace hpx := hd hpx
          go_wp2_with fail
          refine (hp.out l[k] (List.getElem_mem hlt) _ hbl.out).mono ?_
          rw [hpx.out]
          rintro e w2 ⟨rfl, hb⟩
          have hb2 := hd (hbl.out.next hb)
          clear hb
          go_wp2_with fail
          go_ret
          exact ⟨ret_int (fidx_hit hlt hfx.out hpx.out).symm, hb2.out⟩
        | false =>
          replace hpx := hd hpx
          go_wp2_with fail
          refine (hp.out l[k] (List.getElem_mem hlt) _ hbl.out).mono ?_
          rw [hpx.out]
          rintro e w2 ⟨rfl, hb⟩
          have hb2 := hd (hbl.out.next hb)
          clear hb
          go_wp2_with fail
          go_roundw
          case rel => exact ⟨k + 1, by omega, by go_num, fidx_step hlt hfx.out hpx.out, hb2⟩
          case measure => simp [intOf]; omega
      · go_wp2_with fail
        go_ret
        exact ⟨ret_int (fidx_none (by omega) hfx.out).symm, hbl.out⟩
set_option maxHeartbeats 400000 in
theorem part_cl (no : Int) (p : K) (vp : Value) (bk : Nat) (w : World) (lo hi : Nat) (q : w.cell? ⟨bk, 0, none⟩ = some (.int .i64 no)) (hp : RepP w lo hi p vp) :
    Calls Try.prog 146 #[vp, .pointer (some ⟨bk, 0, none⟩)] w (BoolPost (byNo no p) w) := by
  obtain ⟨b, a, c, vs, rfl, hb, c0, c1, c2, c3, c4, c5, hS, hl, hg⟩ := hp.open
  have hz := hd (show byNo no p = (p.no == no) from rfl)
  clear c0 c1 c3 c4 c5 hS hl hg hp
  generalize byNo no p = z at *
  generalize p.no = n at *
  go_enter Try.func146, Try.ntmps146
  go_wp2_with fail
  go_quiet (fail)
  go_wp2_with fail
  go_ret
  exact ⟨by rw [hz.out]; rfl, below_drewN (Below.refl _ w) _⟩
/-- The first part with a number, by its place in the row; nil without one. -/
def PartPost (t : K) (vs : List Value) (no : Int) (w : World) (e : Ending) (w' : World) : Prop :=
  (∀ j, firstP t.parts no j → ∃ h : j < vs.length, e = .returned vs[j]) ∧ (noneP t.parts no → e = .returned (.pointer none)) ∧ Below w.heap.size w w'
set_option maxHeartbeats 800000 in
theorem part_i (t : K) (no : Int) (b c : Nat) (a : Option Addr) (vs : List Value) (w : World) (lo hi : Nat) (hh : hi ≤ w.heap.size) (hlen : t.parts.length ≤ 1000000) (c5 : w.cell? ⟨b, 5, none⟩ = some (.slice a t.parts.length c))
    (hS : PSl w lo hi (.slice a t.parts.length c) vs) (hl : vs.length = t.parts.length) (hg : ∀ j (h : j < t.parts.length) (h' : j < vs.length), RepP w lo hi t.parts[j] vs[j]) :
    Calls Try.prog 110 #[.pointer (some ⟨b, 0, none⟩), .int .i64 no] w (PartPost t vs no w) := by
  have hix := hd (fun (r : Int) (hr : fidx (fun x : KV => byNo no x.k) (kvs t.parts vs) = r) => (ix_pt (.pointer (some ⟨w.heap.size, 0, none⟩)) (fun x => byNo no x.k) (kvs t.parts vs) (.slice a t.parts.length c) (w.alloc (.cells #[.int .i64 no] 3)) (by rw [kvs_len hl]; omega)
    (by rw [kvs_map hl]; exact (hS.same (Same.below (below_a1 w) hh) (Nat.le_refl _) (Nat.le_refl _)).sl (by simp; omega))
    (fun x hx w3 hb3 => by
      obtain ⟨j, j1, j2, rfl⟩ := kvs_mem hl hx
      exact part_cl no _ _ w.heap.size w3 lo hi (keepCell hb3 (by go_simp)) ((hg j j1 j2).below hh ((below_a1 w).next hb3)))).mono (fun e w' (h : IntPost (fidx (fun x : KV => byNo no x.k) (kvs t.parts vs)) _ e w') => (show IntPost r (w.alloc (.cells #[.int .i64 no] 3)) e w' from by subst hr; exact h)))
  have c5a := keepCell (below_a1 w (a := .cells #[.int .i64 no] 3)) c5
  rcases first_or t.parts no with ⟨j, hf⟩ | hn
  · have hjl := hf.1
    have hix2 := hd (hix.out (j : Int) (fidx_first (by rw [kvs_len hl]; exact hjl) (by simp [kvs, byNo]; exact hf.2.1) (fun i hi => by simp [kvs, byNo]; exact hf.2.2 i hi)))
    obtain ⟨b1, o1, rfl, hb1, hc1⟩ := hS.at (j := j) (by omega)
    have q := hc1 j (by omega)
    have hjI : (j : Int) < (t.parts.length : Int) := by omega
    have hres := hd (show ∀ w', Below w.heap.size w w' → PartPost t vs no w (.returned (vs[j]'(by omega))) w' from fun w' hb => ⟨fun j' hf' => by
      have : j' = j := by
        by_cases e1 : j' < j
        · exact absurd hf'.2.1 (hf.2.2 j' e1)
        · by_cases e2 : j < j'
          · exact absurd hf.2.1 (hf'.2.2 j e2)
          · omega
      subst this; exact ⟨by omega, rfl⟩, fun g => absurd hf.2.1 (g j hjl), hb⟩)
    clear hix hc1 hg hf
    generalize (vs[j]'(by omega)) = vj at *
    go_enter Try.func110, Try.ntmps110
    go_wp2_with fail
    refine hix2.out.mono ?_
    rintro e w3 ⟨rfl, hb3⟩
    have hB := hd ((below_a1 w).next hb3)
    have q' := keepCell hB.out q
    have c5b := keepCell hb3 c5a
    clear hb3 q c5a
    go_wp2_with fail
    go_ret
    exact hres.out _ hB.out
  · have hix2 := hd (hix.out (-1) (fidx_none (Nat.le_refl _) (fun i h1 h2 => by
      rw [kvs_len hl] at h1
      simp [kvs, byNo]; exact hn i h1)))
    have hres := hd (show ∀ w', Below w.heap.size w w' → PartPost t vs no w (.returned (.pointer none)) w' from fun w' hb => ⟨fun j hf => absurd hf.2.1 (hn j hf.1), fun _ => rfl, hb⟩)
    clear hix hg hn
    go_enter Try.func110, Try.ntmps110
    go_wp2_with fail
    refine hix2.out.mono ?_
    rintro e w3 ⟨rfl, hb3⟩
    have hB := hd ((below_a1 w).next hb3)
    clear hb3
    go_wp2_with fail
    go_ret
    exact hres.out _ hB.out
theorem all_false {α : Type} {f : α → Bool} {l : List α} {k : Nat} (hk : k < l.length) (h : f l[k] = false) : l.all f = false := by
  rw [List.all_eq_false]
  exact ⟨l[k], List.getElem_mem hk, by simp [h]⟩
theorem all_true {α : Type} {f : α → Bool} {l : List α} (h : ∀ i (hi : i < l.length), f l[i] = true) : l.all f = true := by
  rw [List.all_eq_true]
  intro x hx
  obtain ⟨i, hi, rfl⟩ := List.getElem_of_mem hx
  exact h i hi
set_option maxHeartbeats 6400000 in
theorem under_i (tb : K) : ∀ (ta : K) (va vb : Value) (w : World) (la ha lb hb : Nat), ha ≤ w.heap.size → hb ≤ w.heap.size → countK ta ≤ 1000000 → countK tb ≤ 1000000 → rightK ta → rightK tb → RepP w la ha ta va → RepP w lb hb tb vb →
    Calls Try.prog 106 #[va, vb] w (BoolPost (subB tb ta) w) := by
  refine K.ind2 (P := fun tb => ∀ (ta : K) (va vb : Value) (w : World) (la ha lb hb : Nat), ha ≤ w.heap.size → hb ≤ w.heap.size → countK ta ≤ 1000000 → countK tb ≤ 1000000 → rightK ta → rightK tb → RepP w la ha ta va → RepP w lb hb tb vb →
    Calls Try.prog 106 #[va, vb] w (BoolPost (subB tb ta) w)) ?_ tb
  intro tb ih ta va vb w la ha lb hb hha hhb hca hcb hra hrb hA hB
  have ih := hd ih
  obtain ⟨bA, aA, cA, vsA, rfl, hbA, x0, x1, x2, x3, x4, x5, hSA, hlA, hgA⟩ := hA.open
  obtain ⟨bB, aB, cB, vsB, rfl, hbB, y0, y1, y2, y3, y4, y5, hSB, hlB, hgB⟩ := hB.open
  have hz := hd (subB_eq ta tb)
  have hma := hd (fun h => right_most hra h)
  have hmb := hd (fun h => right_most hrb h)
  have hpa := hd (fun p (hp : p ∈ ta.parts) => (show countK p ≤ 1000000 ∧ rightK p from ⟨by have h1 := count_part hp; have h2 := countK_eq ta; omega, right_part hra hp⟩))
  have hpb := hd (fun p (hp : p ∈ tb.parts) => (show countK p ≤ 1000000 ∧ rightK p from ⟨by have h1 := count_part hp; have h2 := countK_eq tb; omega, right_part hrb hp⟩))
  have hlla : ta.parts.length ≤ 1000000 := by have h1 := len_count ta.parts; have h2 := countK_eq ta; omega
  have hllb : tb.parts.length ≤ 1000000 := by have h1 := len_count tb.parts; have h2 := countK_eq tb; omega
  replace hgA := hd hgA
  replace hgB := hd hgB
  have hone := hd (fun h => right_one hra h)
  have honeb := hd (fun h => right_one hrb h)
  have hpart := hd (fun (no : Int) (w' : World) (hw : Below w.heap.size w w') => part_i ta no bA cA aA vsA w' la ha (Nat.le_trans hha hw.size) hlla (keepCell hw x5) (hSA.same (Same.below hw hha) (Nat.le_refl _) (Nat.le_refl _)) hlA (fun j h1 h2 => (hgA.out j h1 h2).below hha hw))
  have hkids := hd (show tb.of ≠ 4 → tb.of ≠ 5 → tb.parts = [] from fun h4 h5 => by
    rcases hrb.ok.1 with ⟨_, _, g⟩ | ⟨_, _, g⟩ | ⟨g, _⟩ | ⟨g, _⟩
    · exact g
    · exact g
    · exact absurd g h4
    · exact absurd g h5)
  clear x1 x2 x3 y1 y2 y3 hA hB hra hrb hca hcb
  generalize subB tb ta = z at *
  by_cases hof : ta.of = tb.of
  · by_cases hmo : tb.most < ta.most
    · have hres := hd (show z = false by
        have h3 : tb.of = 3 := Classical.byContradiction fun g => by
          have h1 := hma.out (by rw [hof]; exact g); have h2 := hmb.out g; omega
        rw [hz.out]; simp [h3, hmo])
      have hmoI : decide (tb.most < ta.most) = true := by simpa using hmo
      rw [hof] at x0
      generalize tb.of = ob at *
      go_enter Try.func106, Try.ntmps106
      go_wp2_with fail
      go_quiet (fail)
      go_wp2_with fail
      go_ret
      exact ⟨by rw [hres.out]; rfl, below_drewN (Below.refl _ w) _⟩
    · have hz2 := hd (show z = (if tb.of = 4 then subH tb.parts ta else tb.parts.all (stepB ta)) by
        rw [hz.out]; simp [hof, hmo])
      have hmoI : decide (tb.most < ta.most) = false := by simpa using hmo
      clear hz hma hmb
      rw [hof] at x0 hone
      generalize tb.most = mb at *
      generalize ta.most = ma at *
      by_cases h4 : tb.of = 4
      · rw [if_pos h4] at hz2
        obtain ⟨xa, hxa⟩ := hone.out h4
        obtain ⟨yb, hyb⟩ := honeb.out h4
        have hz3 := hd (show z = subB yb xa by
          rw [hz2.out, hyb, subH]
          show (match ta.parts with | [] => true | x :: _ => subB yb x) = subB yb xa
          rw [hxa])
        have h4b : (tb.of == 4) = true := by simpa using h4
        obtain ⟨b1, o1, rfl, hb1, hc1⟩ := hSA.at (j := 0) (by rw [hlA, hxa]; simp)
        obtain ⟨b2, o2, rfl, hb2, hc2⟩ := hSB.at (j := 0) (by rw [hlB, hyb]; simp)
        have q1 := hc1 0 (by rw [hlA, hxa]; simp)
        have q2 := hc2 0 (by rw [hlB, hyb]; simp)
        have r1 := hgA.out 0 (by rw [hxa]; simp) (by rw [hlA, hxa]; simp)
        have r2 := hgB.out 0 (by rw [hyb]; simp) (by rw [hlB, hyb]; simp)
        have e1 : ta.parts[0]'(by rw [hxa]; simp) = xa := by simp [hxa]
        have e2 : tb.parts[0]'(by rw [hyb]; simp) = yb := by simp [hyb]
        rw [e1] at r1
        rw [e2] at r2
        have hi := hd (fun (w' : World) (hw : Below w.heap.size w w') => ih.out yb (by rw [hyb]; simp) xa _ _ w' la ha lb hb (Nat.le_trans hha hw.size) (Nat.le_trans hhb hw.size) (hpa.out xa (by rw [hxa]; simp)).1 (hpb.out yb (by rw [hyb]; simp)).1 (hpa.out xa (by rw [hxa]; simp)).2 (hpb.out yb (by rw [hyb]; simp)).2 (r1.below hha hw) (r2.below hhb hw))
        rw [hyb] at y5
        rw [hxa] at x5
        rw [h4] at x0 y0
        generalize (vsA[0]'(by rw [hlA, hxa]; simp)) = ua at *
        generalize (vsB[0]'(by rw [hlB, hyb]; simp)) = ub at *
        generalize subB yb xa = z1 at *
        simp only [List.length_singleton] at x5 y5
        rw [Nat.add_zero] at q1 q2
        clear hc1 hc2 r1 r2 e1 e2 hz2 hone honeb hpart hkids h4 h4b hof hmo
        go_enter Try.func106, Try.ntmps106
        go_wp2_with fail
        go_quiet (fail)
        have hB1 := hd (show Below w.heap.size w (w.drewN nq) from below_drewN (Below.refl _ w) nq)
        generalize w.drewN nq = w1 at hB1 ⊢
        have y5' := keepCell hB1.out y5
        go_wp2_with fail
        go_loopw [34] (fun n wr => ∃ k : Nat, n = .int .i64 k ∧ k ≤ 1 ∧ Hd (k = 1 → z1 = true) ∧ Hd (Below w.heap.size w wr)) (fun n _ => 1 - (intOf n).toNat)
        case atStart => exact ⟨0, rfl, Nat.zero_le _, fun h => by omega, hB1.out⟩
        case round =>
          obtain ⟨k, rfl, hk, hok, hbl⟩ := hrel
          obtain ⟨wo, rfl⟩ : ∃ wo : World, wo = wr := ⟨_, rfl⟩
          have u0 := keepCell hbl.out x0
          have u5 := keepCell hbl.out x5
          have u1 := keepCell hbl.out q1
          have u2 := keepCell hbl.out q2
          by_cases hlt : k < 1
          · obtain rfl : k = 0 := by omega
            have hi2 := hd (hi.out wo hbl.out)
            cases z1 with
            | true =>
              go_wp2_with fail
              refine hi2.out.mono ?_
              rintro e w5 ⟨rfl, hb5⟩
              have hbl5 := hd (hbl.out.next hb5)
              clear hb5
              go_wp2_with fail
              go_roundw
              case rel => exact ⟨1, by go_num, Nat.le_refl _, by first | exact fun _ => rfl | exact fun _ => trivial, hbl5⟩
              case measure => simp [intOf]
            | false =>
              go_wp2_with fail
              refine hi2.out.mono ?_
              rintro e w5 ⟨rfl, hb5⟩
              have hbl5 := hd (hbl.out.next hb5)
              clear hb5
              go_wp2_with fail
              go_ret
              exact ⟨by rw [hz3.out]; rfl, hbl5.out⟩
          · obtain rfl : k = 1 := by omega
            have hz4 := hd (show z = true by rw [hz3.out]; exact hok.out rfl)
            go_wp2_with fail
            go_ret
            exact ⟨by rw [hz4.out]; rfl, hbl.out⟩
      · rw [if_neg h4] at hz2
        have h4b : (tb.of == 4) = false := by simpa using h4
        have hlenI := hlB
        generalize tb.of = ob at *
        clear hone honeb hkids h4 hof hmo
        go_enter Try.func106, Try.ntmps106
        go_wp2_with fail
        go_quiet (fail)
        have hB1 := hd (show Below w.heap.size w (w.drewN nq) from below_drewN (Below.refl _ w) nq)
        generalize w.drewN nq = w1 at hB1 ⊢
        have y5' := keepCell hB1.out y5
        go_wp2_with fail
        go_loopw [34] (fun n wr => ∃ k : Nat, n = .int .i64 k ∧ k ≤ tb.parts.length ∧ Hd (∀ i (h : i < tb.parts.length), i < k → stepB ta tb.parts[i] = true) ∧ Hd (Below w.heap.size w wr)) (fun n _ => tb.parts.length - (intOf n).toNat)
        case atStart => exact ⟨0, rfl, Nat.zero_le _, fun i _ h => by omega, hB1.out⟩
        case round =>
          obtain ⟨k, rfl, hk, hok, hbl⟩ := hrel
          obtain ⟨wo, rfl⟩ : ∃ wo : World, wo = wr := ⟨_, rfl⟩
          have u0 := keepCell hbl.out x0
          have u5 := keepCell hbl.out x5
          by_cases hlt : k < tb.parts.length
          · have hltI : (k : Int) < (tb.parts.length : Int) := by omega
            obtain ⟨b2, o2, rfl, hb2, hc2⟩ := hSB.at (j := k) (by omega)
            have u2 := keepCell hbl.out (hc2 k (by omega))
            have ry := hgB.out k hlt (by omega)
            have hstep := hd (fun (g : stepB ta tb.parts[k] = true) => (show ∀ i (h : i < tb.parts.length), i < k + 1 → stepB ta tb.parts[i] = true from fun i h1 h2 => by
              by_cases e : i = k
              · subst e; exact g
              · exact hok.out i h1 (by omega)))
            have hbad := hd (fun (g : stepB ta tb.parts[k] = false) => (show z = false by rw [hz2.out]; exact all_false hlt g))
            have hyp := hpb.out tb.parts[k] (List.getElem_mem hlt)
            have ihy := hd (ih.out tb.parts[k] (List.getElem_mem hlt))
            have hS1 := hd (fun j (h : firstP ta.parts (tb.parts[k]'hlt).no j) => step_first h)
            have hS0 := hd (fun (h : noneP ta.parts (tb.parts[k]'hlt).no) => step_none h)
            generalize stepB ta tb.parts[k] = st at *
            generalize hy : tb.parts[k] = y at *
            replace hy := hd hy
            obtain ⟨by2, _, _, _, hvy, _, d0, d1, d2, d3, d4, d5, _⟩ := (ry.below hhb hbl.out).open
            rw [hvy] at u2
            have cp := hd (hpart.out y.no wo hbl.out)
            have d3h := hd d3
            clear hc2 d0 d1 d4 d5
            rcases first_or ta.parts y.no with ⟨j, hf⟩ | hn
            · have hj := hf.1
              have hst0 := hS1.out j hf
              have hjv : j < vsA.length := by rw [hlA]; exact hj
              have rx := hgA.out j hj hjv
              have hxp := hpa.out ta.parts[j] (List.getElem_mem hj)
              have hi2 := hd (fun (w' : World) (hw : Below w.heap.size w w') => ihy.out ta.parts[j] vsA[j] vsB[k] w' la ha lb hb (Nat.le_trans hha hw.size) (Nat.le_trans hhb hw.size) hxp.1 hyp.1 hxp.2 hyp.2 (rx.below hha hw) (ry.below hhb hw))
              rw [hvy] at hi2
              have hf := hd hf
              generalize hxx : ta.parts[j] = x at *
              generalize hvj : vsA[j] = vj at *
              generalize subB y x = z1 at *
              have hvj := hd hvj
              go_wp2_with fail
              refine cp.out.mono ?_
              rintro e w6 ⟨hp1, _, hb6⟩
              obtain ⟨_, rfl⟩ := hp1 j hf.out
              have hbl6 := hd (hbl.out.next hb6)
              have d3b := keepCell hb6 d3h.out
              have rx6 := rx.below hha hbl6.out
              rw [hvj.out]
              obtain ⟨bx2, _, _, _, rfl, _, m0, m1, m2, m3, _⟩ := rx6.open
              have hi2 := hd (hi2.out w6 hbl6.out)
              clear hb6 hp1 m0 m1 m2 rx6
              generalize x.must = xm at *
              generalize y.must = ym at *
              cases ym with
              | true =>
                cases xm with
                | false =>
                  have hres := hd (hbad.out (by rw [hst0]; rfl))
                  go_wp2_with fail
                  go_ret
                  exact ⟨by rw [hres.out]; rfl, hbl6.out⟩
                | true =>
                  have hst := hd (show st = z1 by rw [hst0]; cases z1 <;> rfl)
                  cases z1 with
                  | true =>
                    have hnx := hd (hstep.out (by rw [hst.out]))
                    go_wp2_with fail
                    refine hi2.out.mono ?_
                    rintro e w7 ⟨rfl, hb7⟩
                    have hbl7 := hd (hbl6.out.next hb7)
                    clear hb7
                    go_wp2_with fail
                    go_roundw
                    case rel => exact ⟨k + 1, by go_num, by omega, hnx, hbl7⟩
                    case measure => simp [intOf]; omega
                  | false =>
                    have hres := hd (hbad.out (by rw [hst.out]))
                    go_wp2_with fail
                    refine hi2.out.mono ?_
                    rintro e w7 ⟨rfl, hb7⟩
                    have hbl7 := hd (hbl6.out.next hb7)
                    clear hb7
                    go_wp2_with fail
                    go_ret
                    exact ⟨by rw [hres.out]; rfl, hbl7.out⟩
              | false =>
                have hst := hd (show st = z1 by rw [hst0]; cases z1 <;> rfl)
                cases z1 with
                | true =>
                  have hnx := hd (hstep.out (by rw [hst.out]))
                  go_wp2_with fail
                  refine hi2.out.mono ?_
                  rintro e w7 ⟨rfl, hb7⟩
                  have hbl7 := hd (hbl6.out.next hb7)
                  clear hb7
                  go_wp2_with fail
                  go_roundw
                  case rel => exact ⟨k + 1, by go_num, by omega, hnx, hbl7⟩
                  case measure => simp [intOf]; omega
                | false =>
                  have hres := hd (hbad.out (by rw [hst.out]))
                  go_wp2_with fail
                  refine hi2.out.mono ?_
                  rintro e w7 ⟨rfl, hb7⟩
                  have hbl7 := hd (hbl6.out.next hb7)
                  clear hb7
                  go_wp2_with fail
                  go_ret
                  exact ⟨by rw [hres.out]; rfl, hbl7.out⟩
            · have hres := hd (hbad.out (hS0.out hn))
              have hn := hd hn
              go_wp2_with fail
              refine cp.out.mono ?_
              rintro e w6 ⟨_, hp2, hb6⟩
              obtain rfl := hp2 hn.out
              have hbl6 := hd (hbl.out.next hb6)
              have d3b := keepCell hb6 d3h.out
              clear hb6
              go_wp2_with fail
              go_ret
              exact ⟨by rw [hres.out]; rfl, hbl6.out⟩
          · obtain rfl : k = tb.parts.length := by omega
            have hltI : ¬ (tb.parts.length : Int) < (tb.parts.length : Int) := by omega
            have hz4 := hd (show z = true by rw [hz2.out]; exact all_true (fun i hi => hok.out i hi hi))
            go_wp2_with fail
            go_ret
            exact ⟨by rw [hz4.out]; rfl, hbl.out⟩
  · have hres := hd (show z = false by rw [hz.out]; simp [hof])
    have hofb : (ta.of != tb.of) = true := by simpa using hof
    generalize ta.of = oa at *
    generalize tb.of = ob at *
    go_enter Try.func106, Try.ntmps106
    go_wp2_with fail
    go_quiet (fail)
    go_wp2_with fail
    go_ret
    exact ⟨by rw [hres.out]; rfl, below_drewN (Below.refl _ w) _⟩
end Go.Proofs.Ytibmhnlmdabliaa
