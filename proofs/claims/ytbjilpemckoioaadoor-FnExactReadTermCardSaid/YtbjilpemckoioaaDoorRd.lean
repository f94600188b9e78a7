/- ReadTerm of both sides. -/
import Derived.Test.YtbjilpemckoioaaDoorRdT
namespace Go.Proofs.YtbjilpemckoioaaDoor
open Go.RowKit
set_option linter.unusedVariables false
set_option maxRecDepth 100000
set_option maxHeartbeats 6400000 in
theorem ReadTerm_i (s : ByteArray) (w : World) (hsz : s.size ≤ 1000000000) (r : List DCell) (b : Bool) (hr : (if s.size ≤ 200 then rtI s.data.toList else none) = if b = true then some r else none) (hr0 : b = false → r = []) :
    Calls Tryd.prog 11 #[.string s] w (AggbPost 64 3 (r.map DCell.enc) b w) := by
  replace hr0 := hd hr0
  have hx1 := hd (show Box1 (w.alloc (.cells #[.slice none 0 0] 30)) w.heap.size (.slice none 0 0) from ⟨by go_simp, by go_simp⟩)
  have hB1 := hd (below_a1 w (a := .cells #[.slice none 0 0] 30))
  have hz1 : w.heap.size + 1 ≤ (w.alloc (.cells #[.slice none 0 0] 30)).heap.size := by simp
  by_cases h200 : s.size ≤ 200
  · rw [if_pos h200, rtI_tt] at hr
    have h2I : ¬ (200 : Int) < (s.size : Int) := by omega
    have ck := hd (fun w' => readTree_i 201 201 s w' (Nat.le_refl _) (by omega) (by omega))
    have hcnt := (lrd_count 201).1 s.data.toList
    have hnms := (lrd_names 201).1 s.data.toList
    have hsl : s.data.toList.length = s.size := rfl
    rw [hsl] at hcnt hnms
    obtain ⟨x, hx⟩ : ∃ x, (lrd 201 s.data.toList).1 = x := ⟨_, rfl⟩
    obtain ⟨R, hR⟩ : ∃ R, mkS (lrd 201 s.data.toList).2 = R := ⟨_, rfl⟩
    have ck2 := hd (fun w' => (show Calls Tryd.prog 25 #[.string s] w' (fun e w2 => ∃ v, e = .returned (.tuple #[v, .string R]) ∧ RepY HT w2 (NewB w' w2) x v ∧ Below w'.heap.size w' w2) from (ck.out w').mono (by rintro e w2 ⟨v, h1, h2, h3⟩; rw [hx] at h2; rw [hR] at h1; exact ⟨v, h1, h2, h3⟩)))
    rw [hx] at hr hcnt hnms
    clear ck hx hR
    have hfl := flK_len x
    obtain ⟨tr, tb, htt⟩ : ∃ tr tb, ttR (flK x) = (tr, tb) := ⟨_, _, rfl⟩
    rw [htt] at hr
    replace hr := hd hr
    have hcx : countK x ≤ 300 := by omega
    have ct := hd (fun v' w' hcap hS => TermText_i (flK x) v' w' (by omega) (fun y hy => by have := hnms y hy; omega) hcap hS tr tb htt)
    have cc := hd (fun v' w' S h1 h2 hh => cells_i x v' [] (.slice none 0 0) w' S w'.heap.size h1 h2 (by simp; omega) hh Own.nil)
    have hll : (flK x).length ≤ 300 := by omega
    clear htt hnms hcnt hfl hsl
    generalize flK x = l at *
    go_enter Tryd.func11, Tryd.ntmps11
    go_upto_region 1 with (fail)
    generalize w.alloc (.cells #[.slice none 0 0] 30) = W at *
    go_wp2_with fail
    refine (ck2.out _).mono ?_
    rintro e w2 ⟨v, rfl, hR2, hb2⟩
    have hB2 := hd (hB1.out.next hb2)
    have hx2 := hd (hx1.out.below hb2)
    have hz2 := hb2.size
    have cc2 := hd (cc.out v w2 _ (fun q h => h.2) (Nat.le_refl _) hR2)
    obtain ⟨bp, _, _, _, rfl, hjk⟩ := hR2.open
    clear hR2 hb2 hjk cc ck2 hx1
    go_wp2_with fail
    refine cc2.out.mono ?_
    rintro e w3 ⟨v3, rfl, ho3, hG3⟩
    have hB23 := hd (hG3.below (B := w2.heap.size) (Nat.le_refl _) (by intro g hg; cases hg))
    have hx3 := hd (hx2.out.below hB23.out)
    have hB3 := hd (hB2.out.next hB23.out)
    have hz3 := hB23.out.size
    rw [List.nil_append] at ho3
    obtain ⟨a3, c3, rfl, hjk⟩ := ho3.sl
    simp only [List.length_map] at ho3 ⊢
    replace ho3 := hd ho3
    have hb4 := hd (below_a1 w3 (a := .cells #[.slice a3 l.length c3] 30))
    have hq4 : (w3.alloc (.cells #[.slice a3 l.length c3] 30)).cell? ⟨w3.heap.size, 0, none⟩ = some (.slice a3 l.length c3) := by go_simp
    clear hjk hG3 cc2 hx2
    go_upto_region 5 with (fail)
    generalize w3.alloc (.cells #[.slice a3 l.length c3] 30) = W4 at *
    have hB4 := hd (hB3.out.next hb4.out)
    have hx4 := hd (hx3.out.below hb4.out)
    have ho4 := hd (ho3.out.below hb4.out)
    have hz4 := hb4.out.size
    go_wp2_with fail
    refine (ct.out _ W4 (by intro a n c e; cases e; exact Own.cap ho4.out) ho4.out.sl).mono ?_
    rintro e w5 ⟨rfl, hb5⟩
    have hB5 := hd (hB4.out.next hb5)
    have hx5 := hd (hx4.out.below hb5)
    have ho5 := hd (ho4.out.below hb5)
    have q5 := keepCell hb5 hq4
    have hz5 := hb5.size
    clear hb5 hb4 hx4 hx3 ho3 ho4 hq4 ct
    have Q1 := hx5.out.1; have Q2 := hx5.out.2
    cases tb with
    | false =>
      obtain ⟨rfl, rfl⟩ : r = [] ∧ b = false := by
        have h := hr.out
        rw [if_neg (by rintro ⟨e, _⟩; cases e)] at h
        cases b with
        | true => simp at h
        | false => exact ⟨hr0.out rfl, rfl⟩
      go_wp2_with fail
      refine bodyPost_ret (v := .tuple #[.agg #[.slice none 0 0], .bool false]) (by simp [results, Tryd.results11, go_sem, Q1]) rfl ⟨_, none, rfl, OwnR.nil, ?_⟩
      exact hB5.out.setCell (by simp) _
    | true =>
      have hse : s.toList = s.data.toList := ByteArray.toList_eq s
      cases hge : (tr == s.toList) with
      | true =>
        have e1 : tr = s.data.toList := by rw [← hse]; exact beq_iff_eq.1 hge
        obtain ⟨rfl, rfl⟩ : l = r ∧ b = true := by
          have h := hr.out
          rw [if_pos ⟨rfl, e1⟩] at h
          cases b with
          | true => exact ⟨by simpa using h, rfl⟩
          | false => simp at h
        clear e1 hse hr
        go_wp2_with fail
        exact bodyPost_ret (v := .tuple #[.agg #[.slice a3 l.length c3], .bool true]) (by simp [results, Tryd.results11, go_sem, Q1]) rfl (AggbPost.ofA (rb := (Value.slice a3 l.length c3).ownBlock) (ownR_storeA ho5.out.r (by omega) (by omega)) (hB5.out.setCell (by simp) _))
      | false =>
        obtain ⟨rfl, rfl⟩ : r = [] ∧ b = false := by
          have h := hr.out
          rw [if_neg (by rintro ⟨_, e⟩; rw [← hse] at e; rw [beq_iff_eq.2 e] at hge; cases hge)] at h
          cases b with
          | true => simp at h
          | false => exact ⟨hr0.out rfl, rfl⟩
        clear hse hr
        go_wp2_with fail
        refine bodyPost_ret (v := .tuple #[.agg #[.slice none 0 0], .bool false]) (by simp [results, Tryd.results11, go_sem, Q1]) rfl ⟨_, none, rfl, OwnR.nil, ?_⟩
        exact hB5.out.setCell (by simp) _
  · rw [if_neg h200] at hr
    obtain ⟨rfl, rfl⟩ : r = [] ∧ b = false := by
      cases b with
      | true => simp at hr
      | false => exact ⟨hr0.out rfl, rfl⟩
    have h2I : (200 : Int) < (s.size : Int) := by omega
    clear hr
    go_enter Tryd.func11, Tryd.ntmps11
    go_upto_region 1 with (fail)
    generalize w.alloc (.cells #[.slice none 0 0] 30) = W at *
    have Q1 := hx1.out.1; have Q2 := hx1.out.2
    go_wp2_with fail
    refine bodyPost_ret (v := .tuple #[.agg #[.slice none 0 0], .bool false]) (by simp [results, Tryd.results11, go_sem, Q1]) rfl ⟨_, none, rfl, OwnR.nil, ?_⟩
    exact hB1.out.setCell (by simp) _
set_option maxHeartbeats 6400000 in
theorem ReadTerm_s (s : ByteArray) (w : World) (hsz : s.size ≤ 1000000000) (r : List DCell) (b : Bool) (hr : (if s.size ≤ 200 then rtS s.data.toList else none) = if b = true then some r else none) (hr0 : b = false → r = []) :
    Calls Tryd.prog 10 #[.string s] w (AggbPost 64 3 (r.map DCell.enc) b w) := by
  replace hr0 := hd hr0
  have hfalse := hd (fun (e : (none : Option (List DCell)) = if b = true then some r else none) => (show r = [] ∧ b = false from by
    cases b with
    | false => exact ⟨hr0.out rfl, rfl⟩
    | true => simp at e))
  have hx1 := hd (show Box1 (w.alloc (.cells #[.slice none 0 0] 30)) w.heap.size (.slice none 0 0) from ⟨by go_simp, by go_simp⟩)
  have hB1 := hd (below_a1 w (a := .cells #[.slice none 0 0] 30))
  have hz1 : w.heap.size + 1 ≤ (w.alloc (.cells #[.slice none 0 0] 30)).heap.size := by simp
  by_cases h200 : s.size ≤ 200
  · rw [if_pos h200] at hr
    have h2I : ¬ (200 : Int) < (s.size : Int) := by omega
    have hps := hd (fun w' => (show Calls Tryd.prog 21 #[.string s, .int .i64 0, .int .i64 0] w' (PsPost s (prs 201 0 s.data.toList) w') from parse_s s (by omega) 201 201 0 0 w' (Nat.le_refl _) (by omega) (by omega) (by omega) (by omega)))
    have hsl : s.data.toList.length = s.size := rfl
    rw [rtS] at hr
    cases hp1 : prs 201 0 s.data.toList with
    | none =>
      rw [hp1] at hps hr
      obtain ⟨rfl, rfl⟩ := hfalse.out hr
      clear hr hp1
      go_enter Tryd.func10, Tryd.ntmps10
      go_upto_region 1 with (fail)
      generalize w.alloc (.cells #[.slice none 0 0] 30) = W at *
      go_wp2_with fail
      refine (hps.out _).mono ?_
      intro e w2 hp
      obtain ⟨rfl, hb2⟩ := PsPost_n hp
      have hal2 := hd (hb2.next (below_a1 w2 (a := .cells #[.int .i64 0, .string ⟨#[]⟩, .slice none 0 0] 41)))
      clear hp hb2
      go_upto_region 4 with (fail)
      generalize w2.alloc (.cells #[.int .i64 0, .string ⟨#[]⟩, .slice none 0 0] 41) = W3 at *
      have hx3 := hd (hx1.out.below hal2.out)
      have hB3 := hd (hB1.out.next hal2.out)
      have Q1 := hx3.out.1; have Q2 := hx3.out.2
      go_wp2_with fail
      refine bodyPost_ret (v := .tuple #[.agg #[.slice none 0 0], .bool false]) (by simp [results, Tryd.results10, go_sem, Q1]) rfl ⟨_, none, rfl, OwnR.nil, ?_⟩
      exact hB3.out.setCell (by simp) _
    | some p =>
      obtain ⟨t, rr⟩ := p
      have hcn := ((prs_text 201).1 _ _ _ _ hp1).2.2
      have hnms := (prs_names 201).1 _ _ _ _ hp1
      rw [hsl] at hcn hnms
      rw [hp1] at hps hr
      rw [Option.bind_some] at hr
      have hfl := flK_len t
      have hct : countK t ≤ 200 := by omega
      have hcg := hd (fun v' w' hS => GoodTerm_s (flK t) v' w' (by omega) (fun y hy => by have := hnms y hy; omega) hS _ rfl)
      have hz := hd (fun r' w' S h1 h2 => size6_s t r' w' S h1 (by omega) h2)
      have hof := hd (fun r' w' S h1 h2 => of6_s t r' w' S h1 (by omega) h2)
      have hll : (flK t).length ≤ 200 := by omega
      replace hr := hd hr
      clear hp1 hnms hcn
      go_enter Tryd.func10, Tryd.ntmps10
      go_upto_region 1 with (fail)
      generalize w.alloc (.cells #[.slice none 0 0] 30) = W at *
      go_wp2_with fail
      refine (hps.out _).mono ?_
      intro e w2 hp
      obtain ⟨rows, k, rfl, ⟨hk0, hkL, rfl⟩, hR2, hb2⟩ := PsPost_s hp
      obtain ⟨a2, c2, rows2, rfl, hjk⟩ := hR2.openT
      have hX3 := hd (show BoxN (w2.alloc (.cells #[.int .i64 t.of, .string t.name, .slice a2 t.parts.length c2] 41)) w2.heap.size [.int .i64 t.of, .string t.name, .slice a2 t.parts.length c2] from BoxN.new w2 _ _)
      have hal2 := hd (hb2.next (below_a1 w2 (a := .cells #[.int .i64 t.of, .string t.name, .slice a2 t.parts.length c2] 41)))
      have hR3 := hd (RepZ.same (S' := fun q => q < (w2.alloc (.cells #[.int .i64 t.of, .string t.name, .slice a2 t.parts.length c2] 41)).heap.size) (SameS.below (below_a1 w2 (a := .cells #[.int .i64 t.of, .string t.name, .slice a2 t.parts.length c2] 41)) (fun q h => h.2)) (fun q h => by simp; have := h.2; omega) _ _ hR2)
      clear hp hb2 hjk hR2 hps
      go_upto_region 4 with (fail)
      generalize w2.alloc (.cells #[.int .i64 t.of, .string t.name, .slice a2 t.parts.length c2] 41) = W3 at *
      have hx3 := hd (hx1.out.below hal2.out)
      have hB3 := hd (hB1.out.next hal2.out)
      have hz3 := hal2.out.size
      have hkb : ((k : Int) == 0) = false := by rw [← Bool.not_eq_true, beq_iff_eq]; omega
      by_cases hks : k = s.size
      · have hkc : ((k : Int) != (s.size : Int)) = false := by rw [← Bool.not_eq_true, bne_iff_ne]; omega
        have cz := hd (hz.out _ W3 _ (fun q h => h) hR3.out)
        have co := hd (fun w' (hw : Below W3.heap.size W3 w') => hof.out _ w' (fun q => q < W3.heap.size) (fun q h => Nat.lt_of_lt_of_le h hw.size) (RepZ.same (SameS.below hw (fun q h => h)) (fun _ h => h) _ _ hR3.out))
        replace hks := hd hks
        replace hsl := hd hsl
        replace hfl := hd hfl
        have hdn := hd (show s.data.toList.drop k = [] from by rw [hks.out]; exact List.drop_of_length_le (by rw [hsl.out]; exact Nat.le_refl _))
        have x0 := hX3.out.1 0 _ rfl; have x1 := hX3.out.1 1 _ rfl; have x2 := hX3.out.1 2 _ rfl
        by_cases h30 : countK t ≤ 30
        · have hI : ¬ (30 : Int) < ((countK t : Nat) : Int) := by omega
          replace hr := hd (show (if (termT (flK t)).isSome = true then some (flK t) else none) = if b = true then some r else none from by
            rw [← hr.out]
            by_cases hg : (termT (flK t)).isSome = true
            · rw [if_pos hg, if_pos ⟨hdn.out, h30, hg⟩]
            · rw [if_neg hg, if_neg (fun h => hg h.2.2)])
          clear hR3 hal2 hz hof
          generalize flK t = l at *
          generalize countK t = n10 at *
          go_wp2_with fail
          refine cz.out.mono ?_
          rintro e w4 ⟨rfl, hb4⟩
          have X4 := hd (hX3.out.below hb4)
          have hB4 := hd (hB3.out.next hb4)
          have hx4 := hd (hx3.out.below hb4)
          have co4 := hd (co.out _ hb4)
          have hz4 := hb4.size
          clear hb4 x0 x1 x2 cz co
          have x0 := X4.out.1 0 _ rfl; have x1 := X4.out.1 1 _ rfl; have x2 := X4.out.1 2 _ rfl
          go_wp2_with fail
          refine co4.out.mono ?_
          rintro e w5 ⟨v5, rb, rfl, ho5, hb5⟩
          obtain ⟨a5, c5, rfl, hjk⟩ := ho5.sl
          clear hjk
          simp only [List.length_map] at ho5 ⊢
          have hx5 := hd (hx4.out.below hb5)
          have hB5 := hd (hB4.out.next hb5)
          have hz5 := hb5.size
          have hb6 := hd (below_a1 w5 (a := .cells #[.slice a5 l.length c5] 30))
          have hq6 : (w5.alloc (.cells #[.slice a5 l.length c5] 30)).cell? ⟨w5.heap.size, 0, none⟩ = some (.slice a5 l.length c5) := by go_simp
          replace ho5 := hd ho5
          clear hb5 co4 x0 x1 x2 X4 hX3
          go_upto_region 7 with (fail)
          generalize w5.alloc (.cells #[.slice a5 l.length c5] 30) = W6 at *
          have ho6 := hd (ho5.out.below hb6.out)
          have hx6 := hd (hx5.out.below hb6.out)
          have hB6 := hd (hB5.out.next hb6.out)
          have hz6 := hb6.out.size
          have cg := hd (hcg.out _ W6 ho6.out.sl)
          obtain ⟨gt, hgt⟩ : ∃ gt, (termT l).isSome = gt := ⟨_, rfl⟩
          rw [hgt] at cg hr
          clear hgt hcg ho5 hx5
          go_wp2_with fail
          refine cg.out.mono ?_
          rintro e w7 ⟨rfl, hb7⟩
          have ho7 := hd (ho6.out.below hb7)
          have hx7 := hd (hx6.out.below hb7)
          have hB7 := hd (hB6.out.next hb7)
          have hz7 := hb7.size
          have q7 := keepCell hb7 hq6
          clear hb7 hb6 hq6 ho6 hx6 cg
          have Q1 := hx7.out.1; have Q2 := hx7.out.2
          cases gt with
          | true =>
            obtain ⟨rfl, rfl⟩ : l = r ∧ b = true := by
              have h := hr.out
              rw [if_pos rfl] at h
              cases b with
              | true => exact ⟨by simpa using h, rfl⟩
              | false => simp at h
            clear hr
            go_wp2_with fail
            exact bodyPost_ret (v := .tuple #[.agg #[.slice a5 l.length c5], .bool true]) (by simp [results, Tryd.results10, go_sem, Q1]) rfl (AggbPost.ofA (rb := rb) (ownR_storeA ho7.out (by omega) (by omega)) (hB7.out.setCell (by simp) _))
          | false =>
            obtain ⟨rfl, rfl⟩ := hfalse.out (by have h := hr.out; rwa [if_neg (by decide)] at h)
            clear hr
            go_wp2_with fail
            refine bodyPost_ret (v := .tuple #[.agg #[.slice none 0 0], .bool false]) (by simp [results, Tryd.results10, go_sem, Q1]) rfl ⟨_, none, rfl, OwnR.nil, ?_⟩
            exact hB7.out.setCell (by simp) _
        · have hI : (30 : Int) < ((countK t : Nat) : Int) := by omega
          obtain ⟨rfl, rfl⟩ := hfalse.out (by have h := hr.out; rwa [if_neg (fun g => h30 g.2.1)] at h)
          clear hr hR3 hal2 hz hof co hcg
          generalize countK t = n10 at *
          go_wp2_with fail
          refine cz.out.mono ?_
          rintro e w4 ⟨rfl, hb4⟩
          have hB4 := hd (hB3.out.next hb4)
          have hx4 := hd (hx3.out.below hb4)
          have Q1 := hx4.out.1; have Q2 := hx4.out.2
          clear hb4
          go_wp2_with fail
          refine bodyPost_ret (v := .tuple #[.agg #[.slice none 0 0], .bool false]) (by simp [results, Tryd.results10, go_sem, Q1]) rfl ⟨_, none, rfl, OwnR.nil, ?_⟩
          exact hB4.out.setCell (by simp) _
      · have hkc : ((k : Int) != (s.size : Int)) = true := by rw [bne_iff_ne]; omega
        obtain ⟨rfl, rfl⟩ := hfalse.out (by
          have h := hr.out
          rwa [if_neg (fun g => by have := congrArg List.length g.1; rw [List.length_drop, hsl, List.length_nil] at this; omega)] at h)
        have Q1 := hx3.out.1; have Q2 := hx3.out.2
        clear hr hR3 hz hof hcg hsl hfl
        go_wp2_with fail
        refine bodyPost_ret (v := .tuple #[.agg #[.slice none 0 0], .bool false]) (by simp [results, Tryd.results10, go_sem, Q1]) rfl ⟨_, none, rfl, OwnR.nil, ?_⟩
        exact hB3.out.setCell (by simp) _
  · rw [if_neg h200] at hr
    obtain ⟨rfl, rfl⟩ := hfalse.out hr
    have h2I : (200 : Int) < (s.size : Int) := by omega
    clear hr
    go_enter Tryd.func10, Tryd.ntmps10
    go_upto_region 1 with (fail)
    generalize w.alloc (.cells #[.slice none 0 0] 30) = W at *
    have Q1 := hx1.out.1; have Q2 := hx1.out.2
    go_wp2_with fail
    refine bodyPost_ret (v := .tuple #[.agg #[.slice none 0 0], .bool false]) (by simp [results, Tryd.results10, go_sem, Q1]) rfl ⟨_, none, rfl, OwnR.nil, ?_⟩
    exact hB1.out.setCell (by simp) _
end Go.Proofs.YtbjilpemckoioaaDoor
