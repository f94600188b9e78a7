/- Whether each value of a type is one of another's: l2By and l2Sub of the reference. -/
import Derived.Test.YtibmhnlmdabliaaSubI
import Derived.StillTailTactics
namespace Go.Proofs.Ytibmhnlmdabliaa
open Go.RowKit
set_option linter.unusedVariables false
set_option maxRecDepth 100000
def rowK (p : K) (a : Option Addr) (c : Nat) : List Value := [.int .i64 p.of, .string p.name, .int .i64 p.no, .bool p.must, .int .i64 p.most, .slice a p.parts.length c]
/-- The first part with a number; an empty one without. -/
def ByPost (t : K) (rows : List (List Value)) (no : Int) (w : World) (e : Ending) (w' : World) : Prop :=
  (∀ j, firstP t.parts no j → ∃ h : j < rows.length, e = .returned (.tuple #[.agg rows[j].toArray, .bool true])) ∧ (noneP t.parts no → e = .returned (.tuple #[.agg #[.int .i64 0, .string ⟨#[]⟩, .int .i64 0, .bool false, .int .i64 0, .slice none 0 0], .bool false])) ∧ Below w.heap.size w w'
set_option maxHeartbeats 3200000 in
theorem by_s (t : K) (no : Int) (a : Option Addr) (c : Nat) (rows : List (List Value)) (w : World) (lo hi : Nat) (hh : hi ≤ w.heap.size) (hlen : t.parts.length ≤ 1000000)
    (hS : RSl w lo hi (.slice a t.parts.length c) rows) (hl : rows.length = t.parts.length) (hg : ∀ j (h : j < t.parts.length) (h' : j < rows.length), RepT w lo hi t.parts[j] rows[j]) :
    Calls Try.prog 108 #[.agg #[.int .i64 t.of, .string t.name, .int .i64 t.no, .bool t.must, .int .i64 t.most, .slice a t.parts.length c], .int .i64 no] w (ByPost t rows no w) := by
  replace hg := hd hg
  have hres1 := hd (fun j (hf : firstP t.parts no j) (hj : j < rows.length) w' (hb : Below w.heap.size w w') => (show ByPost t rows no w (.returned (.tuple #[.agg rows[j].toArray, .bool true])) w' from ⟨fun j' hf' => by
      have : j' = j := by
        by_cases e1 : j' < j
        · exact absurd hf'.2.1 (hf.2.2 j' e1)
        · by_cases e2 : j < j'
          · exact absurd hf.2.1 (hf'.2.2 j e2)
          · omega
      subst this; exact ⟨hj, rfl⟩, fun g => absurd hf.2.1 (g j hf.1), hb⟩))
  have hres0 := hd (fun (hn : noneP t.parts no) w' (hb : Below w.heap.size w w') => (show ByPost t rows no w (.returned (.tuple #[.agg #[.int .i64 0, .string ⟨#[]⟩, .int .i64 0, .bool false, .int .i64 0, .slice none 0 0], .bool false])) w' from ⟨fun j hf => absurd hf.2.1 (hn j hf.1), fun _ => rfl, hb⟩))
  generalize hps : t.parts = ps at *
  replace hps := hd hps
  generalize t.of = o at *
  generalize t.name = nm at *
  generalize t.no = nn at *
  generalize t.must = mu at *
  generalize t.most = mo at *
  have hXr := hd (show BoxN ((w.alloc (.cells #[.int .i64 o, .string nm, .int .i64 nn, .bool mu, .int .i64 mo, .slice a ps.length c] 131)).alloc (.cells #[.int .i64 0, .string ⟨#[]⟩, .int .i64 0, .bool false, .int .i64 0, .slice none 0 0] 131)) (w.heap.size + 1) [.int .i64 0, .string ⟨#[]⟩, .int .i64 0, .bool false, .int .i64 0, .slice none 0 0] from by have := BoxN.new (w.alloc (.cells #[.int .i64 o, .string nm, .int .i64 nn, .bool mu, .int .i64 mo, .slice a ps.length c] 131)) [.int .i64 0, .string ⟨#[]⟩, .int .i64 0, .bool false, .int .i64 0, .slice none 0 0] 131; rwa [World.size_alloc] at this)
  have hbW := hd (below_a2 w (a := .cells #[.int .i64 o, .string nm, .int .i64 nn, .bool mu, .int .i64 mo, .slice a ps.length c] 131) (b := .cells #[.int .i64 0, .string ⟨#[]⟩, .int .i64 0, .bool false, .int .i64 0, .slice none 0 0] 131))
  obtain ⟨W, hW⟩ : ∃ W, W = (w.alloc (.cells #[.int .i64 o, .string nm, .int .i64 nn, .bool mu, .int .i64 mo, .slice a ps.length c] 131)).alloc (.cells #[.int .i64 0, .string ⟨#[]⟩, .int .i64 0, .bool false, .int .i64 0, .slice none 0 0] 131) := ⟨_, rfl⟩
  have q5 := (show W.cell? ⟨w.heap.size, 5, none⟩ = some (.slice a ps.length c) by rw [hW]; go_simp)
  have hsW : W.heap.size = w.heap.size + 2 := by rw [hW]; simp
  rw [← hW] at hXr hbW
  replace hW := hd hW
  go_enter Try.func108, Try.ntmps108
  go_upto_region 1 with (fail)
  rw [← hW.out]
  clear hW
  go_wp2_with fail
  clear q5
  go_loopw [11] (fun n wr => ∃ k : Nat, n = .int .i64 k ∧ k ≤ ps.length ∧ Hd (∀ i (h : i < ps.length), i < k → ps[i].no ≠ no) ∧ Hd (Below W.heap.size W wr)) (fun n _ => ps.length - (intOf n).toNat)
  case atStart => exact ⟨0, rfl, Nat.zero_le _, fun i _ h => by omega, Below.refl _ _⟩
  case round =>
    obtain ⟨k, rfl, hk, hno, hbl⟩ := hrel
    obtain ⟨wo, rfl⟩ : ∃ wo : World, wo = wr := ⟨_, rfl⟩
    have hbw := hd (hbW.out.next hbl.out)
    have hXo := hd (hXr.out.below hbl.out)
    by_cases hlt : k < ps.length
    · have hltI : (k : Int) < (ps.length : Int) := by omega
      have hkr : k < rows.length := by omega
      obtain ⟨b1, rfl, hb1, hc1⟩ := hS.at (j := k) hkr
      obtain ⟨ak, ck, rowsk, hrk, _⟩ := (hg.out k hlt hkr).open
      have hck := hc1 k hkr
      have hr1 := hd (fun (e : ps[k].no = no) => hres1.out k ⟨hlt, e, fun i hi => hno.out i (by omega) hi⟩ hkr)
      have hstep := hd (fun (e : ps[k].no ≠ no) => (show ∀ i (h : i < ps.length), i < k + 1 → ps[i].no ≠ no from fun i h1 h2 => by
        by_cases e2 : i = k
        · subst e2; exact e
        · exact hno.out i h1 (by omega)))
      rw [hrk] at hck hr1
      have d0 := keepCell hbw.out (show w.cell? ⟨b1, k * 6, none⟩ = _ from hck 0 _ rfl)
      have d1 := keepCell hbw.out (hck 1 _ rfl)
      have d2 := keepCell hbw.out (hck 2 _ rfl)
      have d3 := keepCell hbw.out (hck 3 _ rfl)
      have d4 := keepCell hbw.out (hck 4 _ rfl)
      have d5 := keepCell hbw.out (hck 5 _ rfl)
      clear hc1 hrk hck
      generalize ps[k] = p at *
      have hX := hd (show BoxN (wo.alloc (.cells #[.int .i64 p.of, .string p.name, .int .i64 p.no, .bool p.must, .int .i64 p.most, .slice ak p.parts.length ck] 131)) wo.heap.size [.int .i64 p.of, .string p.name, .int .i64 p.no, .bool p.must, .int .i64 p.most, .slice ak p.parts.length ck] from BoxN.new wo [.int .i64 p.of, .string p.name, .int .i64 p.no, .bool p.must, .int .i64 p.most, .slice ak p.parts.length ck] _)
      have hXo2 := hd (hXo.out.below (below_a1 wo (a := .cells #[.int .i64 p.of, .string p.name, .int .i64 p.no, .bool p.must, .int .i64 p.most, .slice ak p.parts.length ck] 131)))
      have hbl2 := hd (hbl.out.next (below_a1 wo (a := .cells #[.int .i64 p.of, .string p.name, .int .i64 p.no, .bool p.must, .int .i64 p.most, .slice ak p.parts.length ck] 131)))
      have hbw2 := hd (hbw.out.next (below_a1 wo (a := .cells #[.int .i64 p.of, .string p.name, .int .i64 p.no, .bool p.must, .int .i64 p.most, .slice ak p.parts.length ck] 131)))
      go_upto_region 4 with (fail)
      generalize wo.alloc (.cells #[.int .i64 p.of, .string p.name, .int .i64 p.no, .bool p.must, .int .i64 p.most, .slice ak p.parts.length ck] 131) = W4 at *
      clear d0 d1 d2 d3 d4 d5
      have p2 := hX.out.1 2 _ rfl
      by_cases he : p.no = no
      · have heb : (p.no == no) = true := by simpa using he
        have p0 := hX.out.1 0 _ rfl
        have p1 := hX.out.1 1 _ rfl
        have p3 := hX.out.1 3 _ rfl
        have p4 := hX.out.1 4 _ rfl
        have p5 := hX.out.1 5 _ rfl
        have z0 := hXo2.out.1 0 _ rfl; have rz0 := hXo2.out.2.1 0; have z1 := hXo2.out.1 1 _ rfl; have rz1 := hXo2.out.2.1 1; have z2 := hXo2.out.1 2 _ rfl; have rz2 := hXo2.out.2.1 2; have z3 := hXo2.out.1 3 _ rfl; have rz3 := hXo2.out.2.1 3; have z4 := hXo2.out.1 4 _ rfl; have rz4 := hXo2.out.2.1 4; have z5 := hXo2.out.1 5 _ rfl; have rz5 := hXo2.out.2.1 5
        have hGf := grownBy_setCells (w.heap.size + 1) [.int .i64 p.of, .string p.name, .int .i64 p.no, .bool p.must, .int .i64 p.most, .slice ak p.parts.length ck] W4 0
        have hbelow := hd (show Below w.heap.size w (setCells W4 (w.heap.size + 1) 0 [.int .i64 p.of, .string p.name, .int .i64 p.no, .bool p.must, .int .i64 p.most, .slice ak p.parts.length ck]) from hbw2.out.grown hGf hbw2.out.size (fun g hg => by cases hg; omega))
        have hfin := hd (hr1.out he _ hbelow.out)
        clear he hr1 hstep hGf
        go_wp2_with fail
        exact bodyPost_ret (v := .tuple #[.agg #[.int .i64 p.of, .string p.name, .int .i64 p.no, .bool p.must, .int .i64 p.most, .slice ak p.parts.length ck], .bool true]) (by simp [results, Try.results108, go_sem, z0, z1, z2, z3, z4, z5]) rfl hfin.out
      · have heb : (p.no == no) = false := by simpa using he
        have hnx := hd (hstep.out he)
        clear he hr1 hstep
        go_wp2_with fail
        go_roundw
        case rel => exact ⟨k + 1, by go_num, by omega, hnx, hbl2⟩
        case measure => simp [intOf]; omega
    · obtain rfl : k = ps.length := by omega
      have hltI : ¬ (ps.length : Int) < (ps.length : Int) := by omega
      have z0 := hXo.out.1 0 _ rfl; have rz0 := hXo.out.2.1 0; have z1 := hXo.out.1 1 _ rfl; have rz1 := hXo.out.2.1 1; have z2 := hXo.out.1 2 _ rfl; have rz2 := hXo.out.2.1 2; have z3 := hXo.out.1 3 _ rfl; have rz3 := hXo.out.2.1 3; have z4 := hXo.out.1 4 _ rfl; have rz4 := hXo.out.2.1 4; have z5 := hXo.out.1 5 _ rfl; have rz5 := hXo.out.2.1 5
      have hGf := grownBy_setCells (w.heap.size + 1) [.int .i64 0, .string ⟨#[]⟩, .int .i64 0, .bool false, .int .i64 0, .slice none 0 0] wo 0
      have hbelow := hd (show Below w.heap.size w (setCells wo (w.heap.size + 1) 0 [.int .i64 0, .string ⟨#[]⟩, .int .i64 0, .bool false, .int .i64 0, .slice none 0 0]) from hbw.out.grown hGf hbw.out.size (fun g hg => by cases hg; omega))
      have hfin := hd (hres0.out (fun i hi => hno.out i hi hi) _ hbelow.out)
      clear hGf
      go_wp2_with fail
      exact bodyPost_ret (v := .tuple #[.agg #[.int .i64 0, .string ⟨#[]⟩, .int .i64 0, .bool false, .int .i64 0, .slice none 0 0], .bool false]) (by simp [results, Try.results108, go_sem, z0, z1, z2, z3, z4, z5]) rfl hfin.out
set_option maxHeartbeats 6400000 in
theorem sub_s (tb : K) : ∀ (ta : K) (ra rb : List Value) (w : World) (la ha lb hb : Nat), ha ≤ w.heap.size → hb ≤ w.heap.size → countK ta ≤ 1000000 → countK tb ≤ 1000000 → rightK ta → rightK tb → RepT w la ha ta ra → RepT w lb hb tb rb →
    Calls Try.prog 105 #[.agg ra.toArray, .agg rb.toArray] w (BoolPost (subB tb ta) w) := by
  refine K.ind2 (P := fun tb => ∀ (ta : K) (ra rb : List Value) (w : World) (la ha lb hb : Nat), ha ≤ w.heap.size → hb ≤ w.heap.size → countK ta ≤ 1000000 → countK tb ≤ 1000000 → rightK ta → rightK tb → RepT w la ha ta ra → RepT w lb hb tb rb →
    Calls Try.prog 105 #[.agg ra.toArray, .agg rb.toArray] w (BoolPost (subB tb ta) w)) ?_ tb
  intro tb ih ta ra rb w la ha lb hb hha hhb hca hcb hra hrb hA hB
  replace ih := hd ih
  obtain ⟨aA, cA, rowsA, rfl, hSA, hlA, hgA⟩ := hA.open
  obtain ⟨aB, cB, rowsB, rfl, hSB, hlB, hgB⟩ := hB.open
  have hz := hd (subB_eq ta tb)
  have hpa := hd (fun p (hp : p ∈ ta.parts) => (show countK p ≤ 1000000 ∧ rightK p from ⟨by have h1 := count_part hp; have h2 := countK_eq ta; omega, right_part hra hp⟩))
  have hpb := hd (fun p (hp : p ∈ tb.parts) => (show countK p ≤ 1000000 ∧ rightK p from ⟨by have h1 := count_part hp; have h2 := countK_eq tb; omega, right_part hrb hp⟩))
  have hlla : ta.parts.length ≤ 1000000 := by have h1 := len_count ta.parts; have h2 := countK_eq ta; omega
  have hllb : tb.parts.length ≤ 1000000 := by have h1 := len_count tb.parts; have h2 := countK_eq tb; omega
  replace hgA := hd hgA
  replace hgB := hd hgB
  have hone := hd (fun h => right_one hra h)
  have honeb := hd (fun h => right_one hrb h)
  have hPa := hd ((BoxN.new w [.int .i64 ta.of, .string ta.name, .int .i64 ta.no, .bool ta.must, .int .i64 ta.most, .slice aA ta.parts.length cA] 131).below (below_a1 _ (a := (.cells #[.int .i64 tb.of, .string tb.name, .int .i64 tb.no, .bool tb.must, .int .i64 tb.most, .slice aB tb.parts.length cB] 131))))
  have hPb := hd (show BoxN ((w.alloc (.cells #[.int .i64 ta.of, .string ta.name, .int .i64 ta.no, .bool ta.must, .int .i64 ta.most, .slice aA ta.parts.length cA] 131)).alloc (.cells #[.int .i64 tb.of, .string tb.name, .int .i64 tb.no, .bool tb.must, .int .i64 tb.most, .slice aB tb.parts.length cB] 131)) (w.heap.size + 1) [.int .i64 tb.of, .string tb.name, .int .i64 tb.no, .bool tb.must, .int .i64 tb.most, .slice aB tb.parts.length cB] from by have := BoxN.new (w.alloc (.cells #[.int .i64 ta.of, .string ta.name, .int .i64 ta.no, .bool ta.must, .int .i64 ta.most, .slice aA ta.parts.length cA] 131)) [.int .i64 tb.of, .string tb.name, .int .i64 tb.no, .bool tb.must, .int .i64 tb.most, .slice aB tb.parts.length cB] 131; rwa [World.size_alloc] at this)
  have hbW := hd (below_a2 w (a := (.cells #[.int .i64 ta.of, .string ta.name, .int .i64 ta.no, .bool ta.must, .int .i64 ta.most, .slice aA ta.parts.length cA] 131)) (b := (.cells #[.int .i64 tb.of, .string tb.name, .int .i64 tb.no, .bool tb.must, .int .i64 tb.most, .slice aB tb.parts.length cB] 131)))
  obtain ⟨W, hW⟩ : ∃ W, W = (w.alloc (.cells #[.int .i64 ta.of, .string ta.name, .int .i64 ta.no, .bool ta.must, .int .i64 ta.most, .slice aA ta.parts.length cA] 131)).alloc (.cells #[.int .i64 tb.of, .string tb.name, .int .i64 tb.no, .bool tb.must, .int .i64 tb.most, .slice aB tb.parts.length cB] 131) := ⟨_, rfl⟩
  change Hd (BoxN ((w.alloc (.cells #[.int .i64 ta.of, .string ta.name, .int .i64 ta.no, .bool ta.must, .int .i64 ta.most, .slice aA ta.parts.length cA] 131)).alloc (.cells #[.int .i64 tb.of, .string tb.name, .int .i64 tb.no, .bool tb.must, .int .i64 tb.most, .slice aB tb.parts.length cB] 131)) _ _) at hPa
  rw [← hW] at hPa hPb hbW
  replace hW := hd hW
  clear hA hB hra hrb hca hcb
  generalize subB tb ta = z at *
  by_cases hof : ta.of = tb.of
  · by_cases h3 : tb.of = 3
    · by_cases hmo : tb.most < ta.most
      · have hres := hd (show z = false by rw [hz.out]; simp [h3, hmo])
        have hmoI : decide (tb.most < ta.most) = true := by simpa using hmo
        replace hof := hd hof
        replace h3 := hd h3
        go_enter Try.func105, Try.ntmps105
        go_upto_region 1 with (fail)
        rw [← hW.out]
        replace hof := hof.out
        replace h3 := h3.out
        clear hW
        have p0 := hPa.out.1 0 _ rfl
        have p4 := hPa.out.1 4 _ rfl
        have p5 := hPa.out.1 5 _ rfl
        have s0 := hPb.out.1 0 _ rfl
        have s4 := hPb.out.1 4 _ rfl
        have s5 := hPb.out.1 5 _ rfl
        rw [hof, h3] at p0
        rw [h3] at s0
        clear hof h3
        go_wp2_with fail
        go_ret
        exact ⟨by rw [hres.out]; rfl, hbW.out⟩
      · have hz2 := hd (show z = (if tb.of = 4 then subH tb.parts ta else tb.parts.all (stepB ta)) by rw [hz.out]; simp [hof, hmo])
        have hmoI : decide (tb.most < ta.most) = false := by simpa using hmo
        have h4 : ¬ tb.of = 4 := by omega
        replace hof := hd hof
        replace h3 := hd h3
        go_enter Try.func105, Try.ntmps105
        go_upto_region 1 with (fail)
        rw [← hW.out]
        replace hof := hof.out
        replace h3 := h3.out
        clear hW
        have p0 := hPa.out.1 0 _ rfl
        have p4 := hPa.out.1 4 _ rfl
        have p5 := hPa.out.1 5 _ rfl
        have s0 := hPb.out.1 0 _ rfl
        have s4 := hPb.out.1 4 _ rfl
        have s5 := hPb.out.1 5 _ rfl
        rw [if_neg h4] at hz2
        rw [hof, h3] at p0
        rw [h3] at s0
        clear hof h4
        clear hone honeb
        go_wp2_with fail
        clear p0 p4 p5 s0 s4 s5
        go_loopw [41] (fun n wr => ∃ k : Nat, n = .int .i64 k ∧ k ≤ tb.parts.length ∧ Hd (∀ i (h : i < tb.parts.length), i < k → stepB ta tb.parts[i] = true) ∧ Hd (Below W.heap.size W wr)) (fun n _ => tb.parts.length - (intOf n).toNat)
        case atStart => exact ⟨0, rfl, Nat.zero_le _, fun i _ h => by omega, Below.refl _ _⟩
        case round =>
          obtain ⟨k, rfl, hk, hok, hbl⟩ := hrel
          obtain ⟨wo, rfl⟩ : ∃ wo : World, wo = wr := ⟨_, rfl⟩
          have hbw := hd (hbW.out.next hbl.out)
          by_cases hlt : k < tb.parts.length
          · have hltI : (k : Int) < (tb.parts.length : Int) := by omega
            have hkr : k < rowsB.length := by omega
            obtain ⟨b2, rfl, hb2, hc2⟩ := hSB.at (j := k) hkr
            have ry := hgB.out k hlt hkr
            obtain ⟨aY, cY, rY, hrY, _⟩ := ry.open
            have q2 := hc2 k hkr
            have hstep := hd (fun (g : stepB ta tb.parts[k] = true) => (show ∀ i (h : i < tb.parts.length), i < k + 1 → stepB ta tb.parts[i] = true from fun i h1 h2 => by
              by_cases e : i = k
              · subst e; exact g
              · exact hok.out i h1 (by omega)))
            have hbad := hd (fun (g : stepB ta tb.parts[k] = false) => (show z = false by rw [hz2.out]; exact all_false hlt g))
            have hyp := hpb.out tb.parts[k] (List.getElem_mem hlt)
            have ihy := hd (ih.out tb.parts[k] (List.getElem_mem hlt))
            have hS1 := hd (fun j (h : firstP ta.parts (tb.parts[k]'hlt).no j) => step_first h)
            have hS0 := hd (fun (h : noneP ta.parts (tb.parts[k]'hlt).no) => step_none h)
            rw [hrY] at q2 ry
            generalize stepB ta tb.parts[k] = st at *
            generalize hy : tb.parts[k] = y at *
            replace hy := hd hy
            have d0 := keepCell hbw.out (show w.cell? ⟨b2, k * 6, none⟩ = _ from q2 0 _ rfl)
            have d1 := keepCell hbw.out (q2 1 _ rfl)
            have d2 := keepCell hbw.out (q2 2 _ rfl)
            have d3 := keepCell hbw.out (q2 3 _ rfl)
            have d4 := keepCell hbw.out (q2 4 _ rfl)
            have d5 := keepCell hbw.out (q2 5 _ rfl)
            have hY := hd (show BoxN (wo.alloc (.cells #[.int .i64 y.of, .string y.name, .int .i64 y.no, .bool y.must, .int .i64 y.most, .slice aY y.parts.length cY] 131)) wo.heap.size [.int .i64 y.of, .string y.name, .int .i64 y.no, .bool y.must, .int .i64 y.most, .slice aY y.parts.length cY] from BoxN.new wo [.int .i64 y.of, .string y.name, .int .i64 y.no, .bool y.must, .int .i64 y.most, .slice aY y.parts.length cY] _)
            have hbl4 := hd (hbl.out.next (below_a1 wo (a := (.cells #[.int .i64 y.of, .string y.name, .int .i64 y.no, .bool y.must, .int .i64 y.most, .slice aY y.parts.length cY] 131))))
            have hbw4 := hd (hbw.out.next (below_a1 wo (a := (.cells #[.int .i64 y.of, .string y.name, .int .i64 y.no, .bool y.must, .int .i64 y.most, .slice aY y.parts.length cY] 131))))
            have hPa4 := hd (hPa.out.below hbl4.out)
            clear hc2 q2 hrY
            go_upto_region 8 with (fail)
            generalize wo.alloc (.cells #[.int .i64 y.of, .string y.name, .int .i64 y.no, .bool y.must, .int .i64 y.most, .slice aY y.parts.length cY] 131) = W4 at *
            have p0 := hPa4.out.1 0 _ rfl; have p1 := hPa4.out.1 1 _ rfl; have p2 := hPa4.out.1 2 _ rfl; have p3 := hPa4.out.1 3 _ rfl; have p4 := hPa4.out.1 4 _ rfl; have p5 := hPa4.out.1 5 _ rfl
            have t2 := hY.out.1 2 _ rfl
            clear d0 d1 d2 d3 d4 d5
            have cp := hd (by_s ta y.no aA cA rowsA W4 la ha (Nat.le_trans hha hbw4.out.size) hlla (hSA.same (Same.below hbw4.out hha) (Nat.le_refl _) (Nat.le_refl _)) hlA (fun j h1 h2 => (hgA.out j h1 h2).below hha hbw4.out))
            rcases first_or ta.parts y.no with ⟨j, hf⟩ | hn
            · have hj := hf.1
              have hst0 := hS1.out j hf
              have hjv : j < rowsA.length := by rw [hlA]; exact hj
              have rx := hgA.out j hj hjv
              obtain ⟨aX, cX, rX, hrX, _⟩ := rx.open
              have hxp := hpa.out ta.parts[j] (List.getElem_mem hj)
              rw [hrX] at rx
              have hi2 := hd (fun (w' : World) (hw : Below w.heap.size w w') => ihy.out ta.parts[j] _ _ w' la ha lb hb (Nat.le_trans hha hw.size) (Nat.le_trans hhb hw.size) hxp.1 hyp.1 hxp.2 hyp.2 (rx.below hha hw) (ry.below hhb hw))
              have hrX := hd hrX
              have hf := hd hf
              generalize hxx : ta.parts[j] = x at *
              replace hxx := hd hxx
              generalize subB y x = z1 at *
              go_wp2_with fail
              refine cp.out.mono ?_
              rintro e w6 ⟨hp1, _, hb6⟩
              obtain ⟨_, rfl⟩ := hp1 j hf.out
              have hbl6 := hd (hbl4.out.next hb6)
              have hbw6 := hd (hbw4.out.next hb6)
              have hY6 := hd (hY.out.below hb6)
              rw [hrX.out]
              have hY7 := hd (hY6.out.below (below_a1 w6 (a := (.cells #[.int .i64 x.of, .string x.name, .int .i64 x.no, .bool x.must, .int .i64 x.most, .slice aX x.parts.length cX] 131))))
              have hX7 := hd (show BoxN (w6.alloc (.cells #[.int .i64 x.of, .string x.name, .int .i64 x.no, .bool x.must, .int .i64 x.most, .slice aX x.parts.length cX] 131)) w6.heap.size [.int .i64 x.of, .string x.name, .int .i64 x.no, .bool x.must, .int .i64 x.most, .slice aX x.parts.length cX] from BoxN.new w6 [.int .i64 x.of, .string x.name, .int .i64 x.no, .bool x.must, .int .i64 x.most, .slice aX x.parts.length cX] _)
              have hbl7 := hd (hbl6.out.next (below_a1 w6 (a := (.cells #[.int .i64 x.of, .string x.name, .int .i64 x.no, .bool x.must, .int .i64 x.most, .slice aX x.parts.length cX] 131))))
              have hbw7 := hd (hbw6.out.next (below_a1 w6 (a := (.cells #[.int .i64 x.of, .string x.name, .int .i64 x.no, .bool x.must, .int .i64 x.most, .slice aX x.parts.length cX] 131))))
              have hi2 := hd (hi2.out _ hbw7.out)
              clear hb6 hp1 t2 p0 p1 p2 p3 p4 p5
              go_upto_region 9 with (fail)
              generalize w6.alloc (.cells #[.int .i64 x.of, .string x.name, .int .i64 x.no, .bool x.must, .int .i64 x.most, .slice aX x.parts.length cX] 131) = W7 at *
              have t0 := hY7.out.1 0 _ rfl; have t1 := hY7.out.1 1 _ rfl; have t2 := hY7.out.1 2 _ rfl; have t3 := hY7.out.1 3 _ rfl; have t4 := hY7.out.1 4 _ rfl; have t5 := hY7.out.1 5 _ rfl
              have u0 := hX7.out.1 0 _ rfl; have u1 := hX7.out.1 1 _ rfl; have u2 := hX7.out.1 2 _ rfl; have u3 := hX7.out.1 3 _ rfl; have u4 := hX7.out.1 4 _ rfl; have u5 := hX7.out.1 5 _ rfl
              cases hym : y.must with
              | true =>
                rw [hym] at t3 hi2
                cases hxm : x.must with
                | false =>
                  rw [hxm] at u3
                  have hres := hd (hbad.out (by rw [hst0, hym, hxm]; rfl))
                  clear hym hxm
                  go_wp2_with fail
                  go_ret
                  exact ⟨by rw [hres.out]; rfl, hbw7.out⟩
                | true =>
                  rw [hxm] at u3 hi2
                  have hst := hd (show st = z1 by rw [hst0, hym, hxm]; cases z1 <;> rfl)
                  clear hym hxm
                  cases z1 with
                  | true =>
                    have hnx := hd (hstep.out (by rw [hst.out]))
                    go_wp2_with fail
                    refine hi2.out.mono ?_
                    rintro e w8 ⟨rfl, hb8⟩
                    have hbl8 := hd (hbl7.out.next hb8)
                    have hbw8 := hd (hbw7.out.next hb8)
                    clear hb8
                    go_wp2_with fail
                    go_roundw
                    case rel => exact ⟨k + 1, by go_num, by omega, hnx, hbl8⟩
                    case measure => simp [intOf]; omega
                  | false =>
                    have hres := hd (hbad.out (by rw [hst.out]))
                    go_wp2_with fail
                    refine hi2.out.mono ?_
                    rintro e w8 ⟨rfl, hb8⟩
                    have hbl8 := hd (hbl7.out.next hb8)
                    have hbw8 := hd (hbw7.out.next hb8)
                    clear hb8
                    go_wp2_with fail
                    go_ret
                    exact ⟨by rw [hres.out]; rfl, hbw8.out⟩
              | false =>
                rw [hym] at t3 hi2
                have hst := hd (show st = z1 by rw [hst0, hym]; cases z1 <;> rfl)
                clear hym
                cases z1 with
                | true =>
                  have hnx := hd (hstep.out (by rw [hst.out]))
                  go_wp2_with fail
                  refine hi2.out.mono ?_
                  rintro e w8 ⟨rfl, hb8⟩
                  have hbl8 := hd (hbl7.out.next hb8)
                  have hbw8 := hd (hbw7.out.next hb8)
                  clear hb8
                  go_wp2_with fail
                  go_roundw
                  case rel => exact ⟨k + 1, by go_num, by omega, hnx, hbl8⟩
                  case measure => simp [intOf]; omega
                | false =>
                  have hres := hd (hbad.out (by rw [hst.out]))
                  go_wp2_with fail
                  refine hi2.out.mono ?_
                  rintro e w8 ⟨rfl, hb8⟩
                  have hbl8 := hd (hbl7.out.next hb8)
                  have hbw8 := hd (hbw7.out.next hb8)
                  clear hb8
                  go_wp2_with fail
                  go_ret
                  exact ⟨by rw [hres.out]; rfl, hbw8.out⟩
            · have hres := hd (hbad.out (hS0.out hn))
              have hn := hd hn
              go_wp2_with fail
              refine cp.out.mono ?_
              rintro e w6 ⟨_, hp2, hb6⟩
              obtain rfl := hp2 hn.out
              have hbw6 := hd (hbw4.out.next hb6)
              have hbw7 := hd (hbw6.out.next (below_a1 w6 (a := (.cells #[.int .i64 0, .string ⟨#[]⟩, .int .i64 0, .bool false, .int .i64 0, .slice none 0 0] 131))))
              clear hb6
              go_wp2_with fail
              go_ret
              exact ⟨by rw [hres.out]; rfl, hbw7.out⟩
          · obtain rfl : k = tb.parts.length := by omega
            have hltI : ¬ (tb.parts.length : Int) < (tb.parts.length : Int) := by omega
            have hz4 := hd (show z = true by rw [hz2.out]; exact all_true (fun i hi => hok.out i hi hi))
            go_wp2_with fail
            go_ret
            exact ⟨by rw [hz4.out]; rfl, hbw.out⟩
    · have hz2 := hd (show z = (if tb.of = 4 then subH tb.parts ta else tb.parts.all (stepB ta)) by rw [hz.out]; simp [hof, h3])
      have h3b : (tb.of == 3) = false := by simpa using h3
      by_cases h4 : tb.of = 4
      · rw [if_pos h4] at hz2
        replace hof := hd hof
        replace h4 := hd h4
        go_enter Try.func105, Try.ntmps105
        go_upto_region 1 with (fail)
        rw [← hW.out]
        replace hof := hof.out
        replace h4 := h4.out
        clear hW
        have p0 := hPa.out.1 0 _ rfl
        have p4 := hPa.out.1 4 _ rfl
        have p5 := hPa.out.1 5 _ rfl
        have s0 := hPb.out.1 0 _ rfl
        have s4 := hPb.out.1 4 _ rfl
        have s5 := hPb.out.1 5 _ rfl
        obtain ⟨xa, hxa⟩ := hone.out (by rw [hof]; exact h4)
        obtain ⟨yb, hyb⟩ := honeb.out h4
        have hz3 := hd (show z = subB yb xa by
          rw [hz2.out, hyb, subH]
          show (match ta.parts with | [] => true | x :: _ => subB yb x) = subB yb xa
          rw [hxa])
        obtain ⟨b1, hae, hb1, hc1⟩ := hSA.at (j := 0) (by rw [hlA, hxa]; simp)
        obtain ⟨b2, hbe, hb2, hc2⟩ := hSB.at (j := 0) (by rw [hlB, hyb]; simp)
        have q1 := hc1 0 (by rw [hlA, hxa]; simp)
        have q2 := hc2 0 (by rw [hlB, hyb]; simp)
        have r1 := hgA.out 0 (by rw [hxa]; simp) (by rw [hlA, hxa]; simp)
        have r2 := hgB.out 0 (by rw [hyb]; simp) (by rw [hlB, hyb]; simp)
        have e1 : ta.parts[0]'(by rw [hxa]; simp) = xa := by simp [hxa]
        have e2 : tb.parts[0]'(by rw [hyb]; simp) = yb := by simp [hyb]
        rw [e1] at r1
        rw [e2] at r2
        obtain ⟨aX, cX, rX, hrX, _⟩ := r1.open
        obtain ⟨aY, cY, rY, hrY, _⟩ := r2.open
        rw [hrX] at q1 r1
        rw [hrY] at q2 r2
        have hi := hd (fun (w' : World) (hw : Below w.heap.size w w') => ih.out yb (by rw [hyb]; simp) xa _ _ w' la ha lb hb (Nat.le_trans hha hw.size) (Nat.le_trans hhb hw.size) (hpa.out xa (by rw [hxa]; simp)).1 (hpb.out yb (by rw [hyb]; simp)).1 (hpa.out xa (by rw [hxa]; simp)).2 (hpb.out yb (by rw [hyb]; simp)).2 (r1.below hha hw) (r2.below hhb hw))
        have m0 := keepCell hbW.out (show w.cell? ⟨b1, 0, none⟩ = _ from by have := q1 0 _ rfl; simpa using this)
        have n0 := keepCell hbW.out (show w.cell? ⟨b2, 0, none⟩ = _ from by have := q2 0 _ rfl; simpa using this)
        have m1 := keepCell hbW.out (show w.cell? ⟨b1, 1, none⟩ = _ from by have := q1 1 _ rfl; simpa using this)
        have n1 := keepCell hbW.out (show w.cell? ⟨b2, 1, none⟩ = _ from by have := q2 1 _ rfl; simpa using this)
        have m2 := keepCell hbW.out (show w.cell? ⟨b1, 2, none⟩ = _ from by have := q1 2 _ rfl; simpa using this)
        have n2 := keepCell hbW.out (show w.cell? ⟨b2, 2, none⟩ = _ from by have := q2 2 _ rfl; simpa using this)
        have m3 := keepCell hbW.out (show w.cell? ⟨b1, 3, none⟩ = _ from by have := q1 3 _ rfl; simpa using this)
        have n3 := keepCell hbW.out (show w.cell? ⟨b2, 3, none⟩ = _ from by have := q2 3 _ rfl; simpa using this)
        have m4 := keepCell hbW.out (show w.cell? ⟨b1, 4, none⟩ = _ from by have := q1 4 _ rfl; simpa using this)
        have n4 := keepCell hbW.out (show w.cell? ⟨b2, 4, none⟩ = _ from by have := q2 4 _ rfl; simpa using this)
        have m5 := keepCell hbW.out (show w.cell? ⟨b1, 5, none⟩ = _ from by have := q1 5 _ rfl; simpa using this)
        have n5 := keepCell hbW.out (show w.cell? ⟨b2, 5, none⟩ = _ from by have := q2 5 _ rfl; simpa using this)
        rw [hae, hxa] at p5
        rw [hbe, hyb] at s5
        simp only [List.length_singleton] at p5 s5
        rw [hof, h4] at p0
        rw [h4] at s0
        generalize subB yb xa = z1 at *
        replace hxa := hd hxa
        replace hyb := hd hyb
        clear hc1 hc2 q1 q2 r1 r2 e1 e2 hz2 hone honeb hof h4 hrX hrY hae hbe
        go_wp2_with fail
        go_upto_region 4 with (fail)
        go_still_tail 8, (by kernel_rfl)
        change wpList _ _ _ _ _ W.drew
        go_wp2_with fail
        refine (hi.out W.drew hbW.out.drew).mono ?_
        rintro e w5 ⟨rfl, hb5⟩
        have hB5 := hd (hbW.out.drew.next hb5)
        clear hb5
        go_wp2_with fail
        go_ret
        exact ⟨by rw [hz3.out]; rfl, hB5.out⟩
      · replace hof := hd hof
        go_enter Try.func105, Try.ntmps105
        go_upto_region 1 with (fail)
        rw [← hW.out]
        replace hof := hof.out
        clear hW
        have p0 := hPa.out.1 0 _ rfl
        have p4 := hPa.out.1 4 _ rfl
        have p5 := hPa.out.1 5 _ rfl
        have s0 := hPb.out.1 0 _ rfl
        have s4 := hPb.out.1 4 _ rfl
        have s5 := hPb.out.1 5 _ rfl
        rw [if_neg h4] at hz2
        have h4b : (tb.of == 4) = false := by simpa using h4
        rw [hof] at p0
        clear hof h4
        clear hone honeb
        go_wp2_with fail
        clear p0 p4 p5 s0 s4 s5
        go_loopw [41] (fun n wr => ∃ k : Nat, n = .int .i64 k ∧ k ≤ tb.parts.length ∧ Hd (∀ i (h : i < tb.parts.length), i < k → stepB ta tb.parts[i] = true) ∧ Hd (Below W.heap.size W wr)) (fun n _ => tb.parts.length - (intOf n).toNat)
        case atStart => exact ⟨0, rfl, Nat.zero_le _, fun i _ h => by omega, Below.refl _ _⟩
        case round =>
          obtain ⟨k, rfl, hk, hok, hbl⟩ := hrel
          obtain ⟨wo, rfl⟩ : ∃ wo : World, wo = wr := ⟨_, rfl⟩
          have hbw := hd (hbW.out.next hbl.out)
          by_cases hlt : k < tb.parts.length
          · have hltI : (k : Int) < (tb.parts.length : Int) := by omega
            have hkr : k < rowsB.length := by omega
            obtain ⟨b2, rfl, hb2, hc2⟩ := hSB.at (j := k) hkr
            have ry := hgB.out k hlt hkr
            obtain ⟨aY, cY, rY, hrY, _⟩ := ry.open
            have q2 := hc2 k hkr
            have hstep := hd (fun (g : stepB ta tb.parts[k] = true) => (show ∀ i (h : i < tb.parts.length), i < k + 1 → stepB ta tb.parts[i] = true from fun i h1 h2 => by
              by_cases e : i = k
              · subst e; exact g
              · exact hok.out i h1 (by omega)))
            have hbad := hd (fun (g : stepB ta tb.parts[k] = false) => (show z = false by rw [hz2.out]; exact all_false hlt g))
            have hyp := hpb.out tb.parts[k] (List.getElem_mem hlt)
            have ihy := hd (ih.out tb.parts[k] (List.getElem_mem hlt))
            have hS1 := hd (fun j (h : firstP ta.parts (tb.parts[k]'hlt).no j) => step_first h)
            have hS0 := hd (fun (h : noneP ta.parts (tb.parts[k]'hlt).no) => step_none h)
            rw [hrY] at q2 ry
            generalize stepB ta tb.parts[k] = st at *
            generalize hy : tb.parts[k] = y at *
            replace hy := hd hy
            have d0 := keepCell hbw.out (show w.cell? ⟨b2, k * 6, none⟩ = _ from q2 0 _ rfl)
            have d1 := keepCell hbw.out (q2 1 _ rfl)
            have d2 := keepCell hbw.out (q2 2 _ rfl)
            have d3 := keepCell hbw.out (q2 3 _ rfl)
            have d4 := keepCell hbw.out (q2 4 _ rfl)
            have d5 := keepCell hbw.out (q2 5 _ rfl)
            have hY := hd (show BoxN (wo.alloc (.cells #[.int .i64 y.of, .string y.name, .int .i64 y.no, .bool y.must, .int .i64 y.most, .slice aY y.parts.length cY] 131)) wo.heap.size [.int .i64 y.of, .string y.name, .int .i64 y.no, .bool y.must, .int .i64 y.most, .slice aY y.parts.length cY] from BoxN.new wo [.int .i64 y.of, .string y.name, .int .i64 y.no, .bool y.must, .int .i64 y.most, .slice aY y.parts.length cY] _)
            have hbl4 := hd (hbl.out.next (below_a1 wo (a := (.cells #[.int .i64 y.of, .string y.name, .int .i64 y.no, .bool y.must, .int .i64 y.most, .slice aY y.parts.length cY] 131))))
            have hbw4 := hd (hbw.out.next (below_a1 wo (a := (.cells #[.int .i64 y.of, .string y.name, .int .i64 y.no, .bool y.must, .int .i64 y.most, .slice aY y.parts.length cY] 131))))
            have hPa4 := hd (hPa.out.below hbl4.out)
            clear hc2 q2 hrY
            go_upto_region 8 with (fail)
            generalize wo.alloc (.cells #[.int .i64 y.of, .string y.name, .int .i64 y.no, .bool y.must, .int .i64 y.most, .slice aY y.parts.length cY] 131) = W4 at *
            have p0 := hPa4.out.1 0 _ rfl; have p1 := hPa4.out.1 1 _ rfl; have p2 := hPa4.out.1 2 _ rfl; have p3 := hPa4.out.1 3 _ rfl; have p4 := hPa4.out.1 4 _ rfl; have p5 := hPa4.out.1 5 _ rfl
            have t2 := hY.out.1 2 _ rfl
            clear d0 d1 d2 d3 d4 d5
            have cp := hd (by_s ta y.no aA cA rowsA W4 la ha (Nat.le_trans hha hbw4.out.size) hlla (hSA.same (Same.below hbw4.out hha) (Nat.le_refl _) (Nat.le_refl _)) hlA (fun j h1 h2 => (hgA.out j h1 h2).below hha hbw4.out))
            rcases first_or ta.parts y.no with ⟨j, hf⟩ | hn
            · have hj := hf.1
              have hst0 := hS1.out j hf
              have hjv : j < rowsA.length := by rw [hlA]; exact hj
              have rx := hgA.out j hj hjv
              obtain ⟨aX, cX, rX, hrX, _⟩ := rx.open
              have hxp := hpa.out ta.parts[j] (List.getElem_mem hj)
              rw [hrX] at rx
              have hi2 := hd (fun (w' : World) (hw : Below w.heap.size w w') => ihy.out ta.parts[j] _ _ w' la ha lb hb (Nat.le_trans hha hw.size) (Nat.le_trans hhb hw.size) hxp.1 hyp.1 hxp.2 hyp.2 (rx.below hha hw) (ry.below hhb hw))
              have hrX := hd hrX
              have hf := hd hf
              generalize hxx : ta.parts[j] = x at *
              replace hxx := hd hxx
              generalize subB y x = z1 at *
              go_wp2_with fail
              refine cp.out.mono ?_
              rintro e w6 ⟨hp1, _, hb6⟩
              obtain ⟨_, rfl⟩ := hp1 j hf.out
              have hbl6 := hd (hbl4.out.next hb6)
              have hbw6 := hd (hbw4.out.next hb6)
              have hY6 := hd (hY.out.below hb6)
              rw [hrX.out]
              have hY7 := hd (hY6.out.below (below_a1 w6 (a := (.cells #[.int .i64 x.of, .string x.name, .int .i64 x.no, .bool x.must, .int .i64 x.most, .slice aX x.parts.length cX] 131))))
              have hX7 := hd (show BoxN (w6.alloc (.cells #[.int .i64 x.of, .string x.name, .int .i64 x.no, .bool x.must, .int .i64 x.most, .slice aX x.parts.length cX] 131)) w6.heap.size [.int .i64 x.of, .string x.name, .int .i64 x.no, .bool x.must, .int .i64 x.most, .slice aX x.parts.length cX] from BoxN.new w6 [.int .i64 x.of, .string x.name, .int .i64 x.no, .bool x.must, .int .i64 x.most, .slice aX x.parts.length cX] _)
              have hbl7 := hd (hbl6.out.next (below_a1 w6 (a := (.cells #[.int .i64 x.of, .string x.name, .int .i64 x.no, .bool x.must, .int .i64 x.most, .slice aX x.parts.length cX] 131))))
              have hbw7 := hd (hbw6.out.next (below_a1 w6 (a := (.cells #[.int .i64 x.of, .string x.name, .int .i64 x.no, .bool x.must, .int .i64 x.most, .slice aX x.parts.length cX] 131))))
              have hi2 := hd (hi2.out _ hbw7.out)
              clear hb6 hp1 t2 p0 p1 p2 p3 p4 p5
              go_upto_region 9 with (fail)
              generalize w6.alloc (.cells #[.int .i64 x.of, .string x.name, .int .i64 x.no, .bool x.must, .int .i64 x.most, .slice aX x.parts.length cX] 131) = W7 at *
              have t0 := hY7.out.1 0 _ rfl; have t1 := hY7.out.1 1 _ rfl; have t2 := hY7.out.1 2 _ rfl; have t3 := hY7.out.1 3 _ rfl; have t4 := hY7.out.1 4 _ rfl; have t5 := hY7.out.1 5 _ rfl
              have u0 := hX7.out.1 0 _ rfl; have u1 := hX7.out.1 1 _ rfl; have u2 := hX7.out.1 2 _ rfl; have u3 := hX7.out.1 3 _ rfl; have u4 := hX7.out.1 4 _ rfl; have u5 := hX7.out.1 5 _ rfl
              cases hym : y.must with
              | true =>
                rw [hym] at t3 hi2
                cases hxm : x.must with
                | false =>
                  rw [hxm] at u3
                  have hres := hd (hbad.out (by rw [hst0, hym, hxm]; rfl))
                  clear hym hxm
                  go_wp2_with fail
                  go_ret
                  exact ⟨by rw [hres.out]; rfl, hbw7.out⟩
                | true =>
                  rw [hxm] at u3 hi2
                  have hst := hd (show st = z1 by rw [hst0, hym, hxm]; cases z1 <;> rfl)
                  clear hym hxm
                  cases z1 with
                  | true =>
                    have hnx := hd (hstep.out (by rw [hst.out]))
                    go_wp2_with fail
                    refine hi2.out.mono ?_
                    rintro e w8 ⟨rfl, hb8⟩
                    have hbl8 := hd (hbl7.out.next hb8)
                    have hbw8 := hd (hbw7.out.next hb8)
                    clear hb8
                    go_wp2_with fail
                    go_roundw
                    case rel => exact ⟨k + 1, by go_num, by omega, hnx, hbl8⟩
                    case measure => simp [intOf]; omega
                  | false =>
                    have hres := hd (hbad.out (by rw [hst.out]))
                    go_wp2_with fail
                    refine hi2.out.mono ?_
                    rintro e w8 ⟨rfl, hb8⟩
                    have hbl8 := hd (hbl7.out.next hb8)
                    have hbw8 := hd (hbw7.out.next hb8)
                    clear hb8
                    go_wp2_with fail
                    go_ret
                    exact ⟨by rw [hres.out]; rfl, hbw8.out⟩
              | false =>
                rw [hym] at t3 hi2
                have hst := hd (show st = z1 by rw [hst0, hym]; cases z1 <;> rfl)
                clear hym
                cases z1 with
                | true =>
                  have hnx := hd (hstep.out (by rw [hst.out]))
                  go_wp2_with fail
                  refine hi2.out.mono ?_
                  rintro e w8 ⟨rfl, hb8⟩
                  have hbl8 := hd (hbl7.out.next hb8)
                  have hbw8 := hd (hbw7.out.next hb8)
                  clear hb8
                  go_wp2_with fail
                  go_roundw
                  case rel => exact ⟨k + 1, by go_num, by omega, hnx, hbl8⟩
                  case measure => simp [intOf]; omega
                | false =>
                  have hres := hd (hbad.out (by rw [hst.out]))
                  go_wp2_with fail
                  refine hi2.out.mono ?_
                  rintro e w8 ⟨rfl, hb8⟩
                  have hbl8 := hd (hbl7.out.next hb8)
                  have hbw8 := hd (hbw7.out.next hb8)
                  clear hb8
                  go_wp2_with fail
                  go_ret
                  exact ⟨by rw [hres.out]; rfl, hbw8.out⟩
            · have hres := hd (hbad.out (hS0.out hn))
              have hn := hd hn
              go_wp2_with fail
              refine cp.out.mono ?_
              rintro e w6 ⟨_, hp2, hb6⟩
              obtain rfl := hp2 hn.out
              have hbw6 := hd (hbw4.out.next hb6)
              have hbw7 := hd (hbw6.out.next (below_a1 w6 (a := (.cells #[.int .i64 0, .string ⟨#[]⟩, .int .i64 0, .bool false, .int .i64 0, .slice none 0 0] 131))))
              clear hb6
              go_wp2_with fail
              go_ret
              exact ⟨by rw [hres.out]; rfl, hbw7.out⟩
          · obtain rfl : k = tb.parts.length := by omega
            have hltI : ¬ (tb.parts.length : Int) < (tb.parts.length : Int) := by omega
            have hz4 := hd (show z = true by rw [hz2.out]; exact all_true (fun i hi => hok.out i hi hi))
            go_wp2_with fail
            go_ret
            exact ⟨by rw [hz4.out]; rfl, hbw.out⟩
  · have hres := hd (show z = false by rw [hz.out]; simp [hof])
    have hofb : (ta.of != tb.of) = true := by simpa using hof
    go_enter Try.func105, Try.ntmps105
    go_upto_region 1 with (fail)
    rw [← hW.out]
    clear hW
    have p0 := hPa.out.1 0 _ rfl
    have p4 := hPa.out.1 4 _ rfl
    have p5 := hPa.out.1 5 _ rfl
    have s0 := hPb.out.1 0 _ rfl
    have s4 := hPb.out.1 4 _ rfl
    have s5 := hPb.out.1 5 _ rfl
    go_wp2_with fail
    go_ret
    exact ⟨by rw [hres.out]; rfl, hbW.out⟩
end Go.Proofs.Ytibmhnlmdabliaa
