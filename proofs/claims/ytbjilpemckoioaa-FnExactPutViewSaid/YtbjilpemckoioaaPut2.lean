/- PutView, of the program and of the reference: the walks. -/
import Derived.Test.YtbjilpemckoioaaPut
namespace Go.Proofs.Ytbjilpemckoioaa
open Go.RowKit
set_option linter.unusedVariables false
set_option maxRecDepth 100000
theorem len_gt (n : Nat) (h : n ≠ 0) : (0 : Int) < (n : Int) := by omega
set_option maxHeartbeats 3200000 in
theorem PutView_i (s : ByteArray) (nos : List Int) (t : ByteArray) (u : Value) (w : World) (hs : s.size ≤ 1048576) (ht : t.size ≤ 1048576) (hn : nos.length ≤ 1000000000) (hu : Sl w u 1 (nos.map encI)) (b : Bool) (hb : putB s.data.toList t.data.toList nos = b) (r : List UInt8) (hr : putR s.data.toList t.data.toList nos = r) :
    Calls Try.prog 43 #[.string s, u, .string t] w (SbPost r b w) := by
  have c1 := hd (fun w => rising_i s w hs)
  have c2 := hd (fun w => rising_i t w ht)
  have hT := hd hu
  obtain ⟨g1, hg1⟩ : ∃ g, rfB s.data.toList = g := ⟨_, rfl⟩
  obtain ⟨g2, hg2⟩ : ∃ g, rfB t.data.toList = g := ⟨_, rfl⟩
  obtain ⟨g3, hg3⟩ : ∃ g, risB nos = g := ⟨_, rfl⟩
  obtain ⟨n4, hn4⟩ : ∃ n, (pick nos false (rfF t.data.toList)).length = n := ⟨_, rfl⟩
  have c3 := hd (fun w h => risingNos_i nos u w (by omega) h g3 hg3)
  obtain ⟨a1, k1, rfl, _⟩ := hu
  simp only [List.length_map] at *
  rw [hg1] at c1
  rw [hg2] at c2
  have hG : putG s.data.toList t.data.toList nos = (g1 && (g2 && (g3 && decide (n4 = 0)))) := by rw [putG, hg1, hg2, hg3, hn4]
  have hbg := hd (show putG s.data.toList t.data.toList nos = false → b = false ∧ r = [] from fun h => by
    have h1 : putB s.data.toList t.data.toList nos = false := by rw [putB, h]; rfl
    exact ⟨by rw [← hb, h1], by rw [← hr, putR, h1]; rfl⟩)
  have hll := rfL_len s.data.toList
  have hll2 := rfL_len t.data.toList
  have hn4p := hd (show (pickP nos true (rfL t.data.toList)).length = n4 by
    have := congrArg List.length (pickP_map nos true (rfL t.data.toList))
    rw [List.length_map, ← rfF_map] at this
    rw [this]; exact hn4)
  have hgo := hd (fun (h : putG s.data.toList t.data.toList nos = true) => (show b = decide ((flat (putS s.data.toList t.data.toList nos)).length ≤ 400) ∧ r = if decide ((flat (putS s.data.toList t.data.toList nos)).length ≤ 400) then flat (putS s.data.toList t.data.toList nos) else [] by
    have h1 : putB s.data.toList t.data.toList nos = decide ((flat (putS s.data.toList t.data.toList nos)).length ≤ 400) := by rw [putB, h]; rfl
    exact ⟨by rw [← hb, h1], by rw [← hr, putR, h1]⟩))
  replace hG := hd hG
  replace hn4 := hd hn4
  clear hb hr hg1 hg2 hg3
  cases g1 with
  | false =>
    obtain ⟨f1, f2⟩ := hbg.out (by rw [hG.out]; rfl)
    have e1 := hd f1; have e2 := hd f2
    clear f1 f2
    go_enter Try.func43, Try.ntmps43
    go_wp2_with fail
    refine (c1.out _).mono ?_
    rintro e w2 ⟨v2, rfl, ho2, hb2⟩
    replace hb2 := hd hb2
    clear ho2
    go_wp2_with fail
    refine (c2.out _).mono ?_
    rintro e w3 ⟨v3, rfl, ho3, hb3⟩
    have hB3 := hd (hb2.out.next hb3)
    clear ho3 hb3
    go_wp2_with fail
    go_ret2
    exact ⟨by rw [e1.out, e2.out]; rfl, hB3.out⟩
  | true =>
    cases g2 with
    | false =>
      obtain ⟨f1, f2⟩ := hbg.out (by rw [hG.out]; rfl)
      have e1 := hd f1; have e2 := hd f2
      clear f1 f2
      go_enter Try.func43, Try.ntmps43
      go_wp2_with fail
      refine (c1.out _).mono ?_
      rintro e w2 ⟨v2, rfl, ho2, hb2⟩
      replace hb2 := hd hb2
      clear ho2
      go_wp2_with fail
      refine (c2.out _).mono ?_
      rintro e w3 ⟨v3, rfl, ho3, hb3⟩
      have hB3 := hd (hb2.out.next hb3)
      clear ho3 hb3
      go_wp2_with fail
      go_ret2
      exact ⟨by rw [e1.out, e2.out]; rfl, hB3.out⟩
    | true =>
      cases g3 with
      | false =>
        obtain ⟨f1, f2⟩ := hbg.out (by rw [hG.out]; rfl)
        have e1 := hd f1; have e2 := hd f2
        clear f1 f2
        go_enter Try.func43, Try.ntmps43
        go_wp2_with fail
        refine (c1.out _).mono ?_
        rintro e w2 ⟨v2, rfl, ho2, hb2⟩
        replace hb2 := hd hb2
        clear ho2
        go_wp2_with fail
        refine (c2.out _).mono ?_
        rintro e w3 ⟨v3, rfl, ho3, hb3⟩
        have hB3 := hd (hb2.out.next hb3)
        clear ho3 hb3
        go_wp2_with fail
        refine (c3.out _ (hT.out.mono hB3.out)).mono ?_
        rintro e w4 ⟨rfl, rfl⟩
        go_wp2_with fail
        go_ret2
        exact ⟨by rw [e1.out, e2.out]; rfl, hB3.out⟩
      | true =>
        go_enter Try.func43, Try.ntmps43
        go_wp2_with fail
        refine (c1.out _).mono ?_
        rintro e w2 ⟨v2, rfl, ho2, hb2⟩
        replace hb2 := hd hb2
        replace ho2 := hd ho2
        go_wp2_with fail
        refine (c2.out _).mono ?_
        rintro e w3 ⟨v3, rfl, ho3, hb3⟩
        have hB3 := hd (hb2.out.next hb3)
        have hO2 := hd (ho2.out.below hb3)
        replace ho3 := hd ho3
        have hz23 := hb3.size
        clear hb3 ho2
        go_wp2_with fail
        refine (c3.out _ (hT.out.mono hB3.out)).mono ?_
        rintro e w4 ⟨rfl, rfl⟩
        go_wp2_with fail
        refine (having_i (rfL t.data.toList) nos true _ _ _ (by omega) hn ho3.out.sl (hT.out.mono hB3.out)).mono ?_
        rintro e w4 ⟨v4, rfl, ho4, hb4⟩
        obtain ⟨a4, c4, rfl, _⟩ := ho4.sl
        have hB4 := hd (hB3.out.next hb4)
        have hO24 := hd (hO2.out.below hb4)
        have hO34 := hd (ho3.out.below hb4)
        have hz34 := hb4.size
        rw [List.length_map, hn4p.out]
        clear ho4 hb4 hO2 ho3
        by_cases h0 : n4 = 0
        · have hn0 : ¬ (0 : Int) < (n4 : Int) := by omega
          have hGt := hG.out
          have hg := hd (show putG s.data.toList t.data.toList nos = true by rw [hG.out]; simp [h0])
          obtain ⟨f1, f2⟩ := hgo.out hg.out
          have e1 := hd f1; have e2 := hd f2
          clear f1 f2
          have hn4z := hd (show (pick nos false (rfF t.data.toList)).length = 0 by rw [hn4.out]; exact h0)
          have hgood := hd (put_good (bl := s.data.toList) hn4z.out)
          have hdp := hd (put_dp (bl := s.data.toList) hn4z.out)
          have hsm := hd (show ∀ x ∈ putS s.data.toList t.data.toList nos, x.data.size ≤ 1048576 from fun x hx => put_flat x (putS_mem.1 hx))
          have hmap := hd (show (pickP nos true (rfL s.data.toList) ++ rfL t.data.toList).map (·.f) = putA s.data.toList t.data.toList nos by rw [List.map_append, pickP_map, ← rfF_map, ← rfF_map]; rfl)
          have hpl := pickP_len nos true (rfL s.data.toList)
          have hlen := hd (show (pickP nos true (rfL s.data.toList) ++ rfL t.data.toList).length ≤ 1000 by rw [List.length_append]; omega)
          have hfin := hd (fun Q hp hs => perm_sort hmap.out hdp.out (Q := Q) hp hs)
          have cfb := hd (fun v w h => fieldsBytes_i (putS s.data.toList t.data.toList nos) v w hgood.out.2 hsm.out h b e1.out.symm r (by rw [e2.out, e1.out]))
          clear hgo hbg hGt h0 e1 e2
          obtain ⟨i0, hi, hz0, hz1, hz2⟩ := info_parts infoPlaced
          have Hi := hd hi; have Hz0 := hd hz0; have Hz1 := hd hz1; have Hz2 := hd hz2
          clear hi hz0 hz1 hz2
          go_upto_region 5 with (fail)
          go_wp2_with fail
          refine (having_i (rfL s.data.toList) nos true _ _ _ (by omega) hn hO24.out.sl (hT.out.mono hB4.out)).mono ?_
          rintro e w5 ⟨v5, rfl, ho5, hb5⟩
          have hB5 := hd (hB4.out.next hb5)
          have hO35 := hd (hO34.out.below hb5)
          have hz45 := hb5.size
          replace ho5 := hd ho5
          clear hb5
          go_upto_region 6 with (at_builtin; refine wpList_appTwo rfl (.tmp 43) (.tmp 44) 135 rfl w4.heap.size w2.heap.size 143 i0 _ 5 48 Try.underlying135 Hi.out Hz0.out Hz1.out Hz2.out rfl (by decide) _ _ _ _ rfl ho5.out rfl hO35.out (DPlaced.enc_one _) (by simp only [List.length_map]; omega) (by decide) hz45 ?_; intro v6 w6 ho6 hga hva; rw [← List.map_append] at ho6; have hB6 := hd (hB5.out.grown hga (by have := hB5.out.size; omega) (fun g hg => by have := (ho5.out.lt g hg).1; have := hB4.out.size; omega)); have hz6 := hga.size; replace ho6 := hd ho6; clear hga hva ho5 hO35)
          have hz4w := hB4.out.size
          have csort := hd (sortP_own _ v6 w6 w4.heap.size 143 hlen.out ho6.out w.heap.size w hz4w hB6.out)
          clear ho6
          go_wp2_with fail
          refine csort.out.mono ?_
          rintro e w7 ⟨rfl, Q, hp, hq, ho7, hB7⟩
          have hQm := hd (hfin.out Q hp hq)
          have hQl : Q.length ≤ 1000 := by rw [← hp.length_eq]; exact hlen.out
          replace ho7 := hd ho7
          replace hB7 := hd hB7
          clear csort hp hq hfin
          go_wp2_with fail
          refine (fieldsOf_i Q _ _ (by omega) ho7.out.sl _ hQm.out).mono ?_
          rintro e w8 ⟨v8, rfl, ho8, hb8⟩
          have hB8 := hd (hB7.out.next hb8)
          replace ho8 := hd ho8
          clear hb8 ho7
          go_wp2_with fail
          refine (cfb.out _ _ ho8.out.sl).mono ?_
          rintro e w9 ⟨rfl, hb9⟩
          have hB9 := hd (hB8.out.next hb9)
          clear hb9
          go_wp2_with fail
          go_ret2
          exact ⟨rfl, hB9.out⟩
        · have hn0 : (0 : Int) < (n4 : Int) := len_gt n4 h0
          obtain ⟨f1, f2⟩ := hbg.out (by rw [hG.out]; simp [h0])
          have e1 := hd f1; have e2 := hd f2
          clear f1 f2
          clear h0
          go_wp2_with fail
          go_ret2
          exact ⟨by rw [e1.out, e2.out]; rfl, hB4.out⟩
set_option maxHeartbeats 3200000 in
theorem PutView_s (s : ByteArray) (nos : List Int) (t : ByteArray) (u : Value) (w : World) (hs : s.size ≤ 1048576) (ht : t.size ≤ 1048576) (hn : nos.length ≤ 1000000000) (hu : Sl w u 1 (nos.map encI)) (b : Bool) (hb : putB s.data.toList t.data.toList nos = b) (r : List UInt8) (hr : putR s.data.toList t.data.toList nos = r) :
    Calls Try.prog 41 #[.string s, u, .string t] w (SbPost r b w) := by
  have c1 := hd (fun w => fields5_s s w hs)
  have c2 := hd (fun w => fields5_s t w ht)
  have hT := hd hu
  obtain ⟨g1, hg1⟩ : ∃ g, rfB s.data.toList = g := ⟨_, rfl⟩
  obtain ⟨g2, hg2⟩ : ∃ g, rfB t.data.toList = g := ⟨_, rfl⟩
  obtain ⟨g3, hg3⟩ : ∃ g, risB nos = g := ⟨_, rfl⟩
  obtain ⟨n4, hn4⟩ : ∃ n, (pick nos false (rfF t.data.toList)).length = n := ⟨_, rfl⟩
  have c3 := hd (fun w h => nos_s nos u w (by omega) h g3 hg3)
  obtain ⟨a1, k1, rfl, _⟩ := hu
  simp only [List.length_map] at *
  rw [hg1] at c1
  rw [hg2] at c2
  have hG : putG s.data.toList t.data.toList nos = (g1 && (g2 && (g3 && decide (n4 = 0)))) := by rw [putG, hg1, hg2, hg3, hn4]
  have hbg := hd (show putG s.data.toList t.data.toList nos = false → b = false ∧ r = [] from fun h => by
    have h1 : putB s.data.toList t.data.toList nos = false := by rw [putB, h]; rfl
    exact ⟨by rw [← hb, h1], by rw [← hr, putR, h1]; rfl⟩)
  have hll := rfF_len s.data.toList
  have hll2 := rfF_len t.data.toList
  have hgo := hd (fun (h : putG s.data.toList t.data.toList nos = true) => (show b = decide ((flat (putS s.data.toList t.data.toList nos)).length ≤ 400) ∧ r = if decide ((flat (putS s.data.toList t.data.toList nos)).length ≤ 400) then flat (putS s.data.toList t.data.toList nos) else [] by
    have h1 : putB s.data.toList t.data.toList nos = decide ((flat (putS s.data.toList t.data.toList nos)).length ≤ 400) := by rw [putB, h]; rfl
    exact ⟨by rw [← hb, h1], by rw [← hr, putR, h1]⟩))
  replace hG := hd hG
  replace hn4 := hd hn4
  clear hb hr hg1 hg2 hg3
  cases g1 with
  | false =>
    obtain ⟨f1, f2⟩ := hbg.out (by rw [hG.out]; rfl)
    have e1 := hd f1; have e2 := hd f2
    clear f1 f2
    go_enter Try.func41, Try.ntmps41
    go_wp2_with fail
    refine (c1.out _).mono ?_
    rintro e w2 ⟨v2, rfl, ho2, hb2⟩
    replace hb2 := hd hb2
    clear ho2
    go_wp2_with fail
    refine (c2.out _).mono ?_
    rintro e w3 ⟨v3, rfl, ho3, hb3⟩
    have hB3 := hd (hb2.out.next hb3)
    clear ho3 hb3
    go_wp2_with fail
    go_ret2
    exact ⟨by rw [e1.out, e2.out]; rfl, hB3.out⟩
  | true =>
    cases g2 with
    | false =>
      obtain ⟨f1, f2⟩ := hbg.out (by rw [hG.out]; rfl)
      have e1 := hd f1; have e2 := hd f2
      clear f1 f2
      go_enter Try.func41, Try.ntmps41
      go_wp2_with fail
      refine (c1.out _).mono ?_
      rintro e w2 ⟨v2, rfl, ho2, hb2⟩
      replace hb2 := hd hb2
      clear ho2
      go_wp2_with fail
      refine (c2.out _).mono ?_
      rintro e w3 ⟨v3, rfl, ho3, hb3⟩
      have hB3 := hd (hb2.out.next hb3)
      clear ho3 hb3
      go_wp2_with fail
      go_ret2
      exact ⟨by rw [e1.out, e2.out]; rfl, hB3.out⟩
    | true =>
      cases g3 with
      | false =>
        obtain ⟨f1, f2⟩ := hbg.out (by rw [hG.out]; rfl)
        have e1 := hd f1; have e2 := hd f2
        clear f1 f2
        go_enter Try.func41, Try.ntmps41
        go_wp2_with fail
        refine (c1.out _).mono ?_
        rintro e w2 ⟨v2, rfl, ho2, hb2⟩
        replace hb2 := hd hb2
        clear ho2
        go_wp2_with fail
        refine (c2.out _).mono ?_
        rintro e w3 ⟨v3, rfl, ho3, hb3⟩
        have hB3 := hd (hb2.out.next hb3)
        clear ho3 hb3
        go_wp2_with fail
        refine (c3.out _ (hT.out.mono hB3.out)).mono ?_
        rintro e w4 ⟨rfl, rfl⟩
        go_wp2_with fail
        go_ret2
        exact ⟨by rw [e1.out, e2.out]; rfl, hB3.out⟩
      | true =>
        go_enter Try.func41, Try.ntmps41
        go_wp2_with fail
        refine (c1.out _).mono ?_
        rintro e w2 ⟨v2, rfl, ho2, hb2⟩
        replace hb2 := hd hb2
        replace ho2 := hd ho2
        go_wp2_with fail
        refine (c2.out _).mono ?_
        rintro e w3 ⟨v3, rfl, ho3, hb3⟩
        have hB3 := hd (hb2.out.next hb3)
        have hO2 := hd (ho2.out.below hb3)
        replace ho3 := hd ho3
        have hz23 := hb3.size
        clear hb3 ho2
        go_wp2_with fail
        refine (c3.out _ (hT.out.mono hB3.out)).mono ?_
        rintro e w4 ⟨rfl, rfl⟩
        go_wp2_with fail
        refine (pick_s (rfF t.data.toList) nos false _ _ _ (by omega) hn ho3.out.sl (hT.out.mono hB3.out)).mono ?_
        rintro e w4 ⟨v4, rfl, ho4, hb4⟩
        obtain ⟨a4, c4, rfl, _⟩ := ho4.sl
        have hB4 := hd (hB3.out.next hb4)
        have hO24 := hd (hO2.out.below hb4)
        have hO34 := hd (ho3.out.below hb4)
        have hz34 := hb4.size
        rw [List.length_map, hn4.out]
        clear ho4 hb4 hO2 ho3
        by_cases h0 : n4 = 0
        · have hn0 : ¬ (0 : Int) < (n4 : Int) := by omega
          have hGt := hG.out
          have hg := hd (show putG s.data.toList t.data.toList nos = true by rw [hG.out]; simp [h0])
          obtain ⟨f1, f2⟩ := hgo.out hg.out
          have e1 := hd f1; have e2 := hd f2
          clear f1 f2
          have hn4z := hd (show (pick nos false (rfF t.data.toList)).length = 0 by rw [hn4.out]; exact h0)
          have hgood := hd (put_good (bl := s.data.toList) hn4z.out)
          have hdp := hd (put_dp (bl := s.data.toList) hn4z.out)
          have hsm := hd (show ∀ x ∈ putS s.data.toList t.data.toList nos, x.data.size ≤ 1048576 from fun x hx => put_flat x (putS_mem.1 hx))
          have hpl := pick_len nos false (rfF s.data.toList)
          have hlen := hd (show (putA s.data.toList t.data.toList nos).length ≤ 1048576 by have := put_len (bl := s.data.toList) hn4z.out; omega)
          have csf := hd (fun v w h => SortFields_s (putA s.data.toList t.data.toList nos) v w hlen.out h true hgood.out.1 (putS s.data.toList t.data.toList nos) (by rw [if_pos rfl]; rfl))
          have hS40 := hd (fieldsB_mem hgood.out.2)
          have cfb := hd (fun v w h => fields_s (putS s.data.toList t.data.toList nos) v w hS40.out.1 hS40.out.2 hsm.out h)
          obtain ⟨F, hF⟩ : ∃ F, F = flat (putS s.data.toList t.data.toList nos) := ⟨_, rfl⟩
          rw [← hF] at cfb e1 e2
          clear hF hgo hbg hGt h0
          obtain ⟨i0, hi, hz0, hz1, hz2⟩ := info_parts infoField
          have Hi := hd hi; have Hz0 := hd hz0; have Hz1 := hd hz1; have Hz2 := hd hz2
          clear hi hz0 hz1 hz2
          go_upto_region 5 with (fail)
          go_wp2_with fail
          refine (pick_s (rfF s.data.toList) nos false _ _ _ (by omega) hn hO24.out.sl (hT.out.mono hB4.out)).mono ?_
          rintro e w5 ⟨v5, rfl, ho5, hb5⟩
          have hB5 := hd (hB4.out.next hb5)
          have hO35 := hd (hO34.out.below hb5)
          have hz45 := hb5.size
          replace ho5 := hd ho5
          clear hb5
          go_wp2_with (first
            | (at_builtin; refine wpList_appTwo rfl (.tmp 46) (.tmp 47) 81 rfl w4.heap.size w2.heap.size 141 i0 _ 4 40 Try.underlying81 Hi.out Hz0.out Hz1.out Hz2.out rfl (by decide) _ _ _ _ rfl ho5.out rfl hO35.out (DField.enc_one _) (by simp only [List.length_map]; omega) (by decide) hz45 ?_; intro v6 w6 ho6 hga hva; rw [← List.map_append] at ho6; have hB6 := hd (hB5.out.grown hga (by have := hB5.out.size; omega) (fun g hg => by have := (ho5.out.lt g hg).1; have := hB4.out.size; omega)); have ho6s := hd (show Sl w6 v6 4 ((putA s.data.toList t.data.toList nos).map DField.enc) from ho6.sl); clear hga hva ho5 hO35 ho6))
          refine (csf.out v6 w6 ho6s.out).mono ?_
          rintro e w7 ⟨v7, rb7, rfl, ho7, hb7⟩
          have hB7 := hd (hB6.out.next hb7)
          replace ho7 := hd ho7
          clear hb7
          go_wp2_with fail
          refine (cfb.out _ _ ho7.out.sl).mono ?_
          rintro e w8 ⟨rfl, hb8⟩
          have hB8 := hd (hB7.out.next hb8)
          clear hb8
          obtain ⟨X, hX⟩ : ∃ X, X = mkS F := ⟨_, rfl⟩
          rw [← hX]
          have hXh := hd hX
          have hFs : X.size = F.length := by rw [hX]; exact mkS_size F
          clear hX
          by_cases h400 : F.length ≤ 400
          · have h4I : ¬ (400 : Int) < (X.size : Int) := by rw [hFs]; omega
            have f1 := hd (show b = true by rw [e1.out]; simpa using h400)
            have f2 := hd (show r = F by rw [e2.out]; simp [h400])
            clear hFs h400 e1 e2
            go_wp2_with fail
            go_ret2
            exact ⟨by rw [f1.out, f2.out, ← hXh.out]; rfl, hB8.out⟩
          · have h4I : (400 : Int) < (X.size : Int) := by rw [hFs]; omega
            have f1 := hd (show b = false by rw [e1.out]; simpa using h400)
            have f2 := hd (show r = [] by rw [e2.out]; simp [h400])
            clear hFs h400 e1 e2
            go_wp2_with fail
            go_ret2
            exact ⟨by rw [f1.out, f2.out]; rfl, hB8.out⟩
        · have hn0 : (0 : Int) < (n4 : Int) := len_gt n4 h0
          obtain ⟨f1, f2⟩ := hbg.out (by rw [hG.out]; simp [h0])
          have e1 := hd f1; have e2 := hd f2
          clear f1 f2
          clear h0
          go_wp2_with fail
          go_ret2
          exact ⟨by rw [e1.out, e2.out]; rfl, hB4.out⟩
end Go.Proofs.Ytbjilpemckoioaa
