/- GetPart of the reference. -/
import Derived.Test.YtobahkjbadamhaaGetM
import Derived.Test.YtobahkjbadamhaaFlatDef
import Derived.Test.YtobahkjbadamhaaSubS
import Derived.Test.YtobahkjbadamhaaFitVS
namespace Go.Proofs.Ytobahkjbadamhaa
open Go.RowKit
set_option linter.unusedVariables false
set_option maxRecDepth 100000
theorem getP_no {ln : List DNode} {l : List DType} {no : Int} {b : Bool} {r : List DNode} (h : getP ln l no b r) (hn : ¬ getC ln l no) : b = false ∧ r = [] := by
  cases b with
  | true => exact absurd (h.1.1 rfl) hn
  | false => exact ⟨rfl, h.2.1 rfl⟩
theorem getP_yes {ln : List DNode} {l : List DType} {no : Int} {b : Bool} {r : List DNode} (h : getP ln l no b r) (hy : getC ln l no) {v : K} (hv : enc (trees ln) v 0 ln.length) {i : Nat} (hi : firstP v.parts no i) : b = true ∧ r = rowsV (withNo (v.parts[i]'hi.1) 0) (-1) 0 := by
  have hb := h.1.2 hy
  obtain ⟨v', i', h1, h2, h3⟩ := h.2.2 hb
  obtain rfl := encN_uniq hv h2
  obtain rfl := first_uniq hi h1
  exact ⟨hb, h3⟩
/-- What a value that fits is. -/
theorem fitP_open {ln : List DNode} {l : List DType} (h : fitP ln l) : ∃ t v, goodP l ∧ treeOf l t ∧ headP ln ∧ enc (trees ln) v 0 ln.length ∧ fitsB t v = true := by
  obtain ⟨h1, t, h2, h3, v, h4, h5⟩ := h
  exact ⟨t, v, h1, h2, h3, h4, h5⟩
theorem getC_fit {ln : List DNode} {l : List DType} {no : Int} (h : getC ln l no) : fitP ln l := by
  obtain ⟨t, v, j, i, h1, h2, h3, h4, h5, _⟩ := h
  exact ⟨h2, t, h1, h3, v, h4, h5⟩
theorem getC_of {ln : List DNode} {l : List DType} {no : Int} {t v : K} (h1 : treeOf l t) (h4 : enc (trees ln) v 0 ln.length) (h : getC ln l no) : (∃ j, ∃ hj : firstP t.parts no j, (t.parts[j]'hj.1).of = 5) ∧ ∃ i, firstP v.parts no i := by
  obtain ⟨t', v', j, i, g1, _, _, g4, _, g6, g7⟩ := h
  obtain rfl := treeOf_uniq h1 g1
  obtain rfl := encN_uniq h4 g4
  exact ⟨⟨j, g6⟩, i, g7⟩
theorem countK_withNo (x : K) (m : Int) : countK (withNo x m) = countK x := by obtain ⟨o', nm', n', mu', mo', ps'⟩ := x; rw [withNo_mk, countK, countK]
theorem none_first {ps : List K} {no : Int} {j : Nat} (h : noneP ps no) (hf : firstP ps no j) : False := h j hf.1 hf.2.1
set_option maxHeartbeats 6400000 in
theorem GetPart_s (ln : List DNode) (l : List DType) (no : Int) (vv v : Value) (w : World) (hln : ln.length ≤ 1000000000) (hl : l.length ≤ 1000000000) (hnm : ∀ x ∈ ln, x.text.size ≤ 1000000000000) (hs : ∀ x ∈ l, x.name.size ≤ 1000000000000) (hV : Sl w vv 5 (ln.map DNode.enc)) (h : Sl w v 6 (l.map DType.enc)) (b : Bool) (r : List DNode) (hr : getP ln l no b r) :
    Calls Try.prog 38 #[.agg #[vv], .agg #[v], .int .i64 no] w (AggbPost 113 5 (r.map DNode.enc) b w) := by
  obtain ⟨f, hf⟩ := boolOf (fitP ln l)
  have cf := hd (fun w' (hbb : Below w.heap.size w w') => FitsSchema_s ln l vv v w' hln hl hnm hs (hV.mono hbb) (h.mono hbb) f hf)
  have r0 := hd (fun w' (hbb : Below w.heap.size w w') hq t ht => root_s l v w' hq t ht (h.mono hbb))
  have r1 := hd (fun w' (hbb : Below w.heap.size w w') (hll : ln.length ≤ 1000000) hq t ht => rootV_s ln vv w' hll hq t ht (hV.mono hbb))
  obtain ⟨a1, c1, rfl, -⟩ := h
  obtain ⟨av, cv, rfl, -⟩ := hV
  simp only [List.length_map] at cf r0 r1 ⊢
  have hbW := hd (below_a3 w (a := .cells #[.slice av ln.length cv] 39) (b := .cells #[.slice a1 l.length c1] 28) (c := .cells #[.slice none 0 0] 39))
  have hx := hd (show Box1 (((w.alloc (.cells #[.slice av ln.length cv] 39)).alloc (.cells #[.slice a1 l.length c1] 28)).alloc (.cells #[.slice none 0 0] 39)) (w.heap.size + 1 + 1) (.slice none 0 0) from ⟨by go_simp, by go_simp⟩)
  have hq0 := hd (show (((w.alloc (.cells #[.slice av ln.length cv] 39)).alloc (.cells #[.slice a1 l.length c1] 28)).alloc (.cells #[.slice none 0 0] 39)).cell? ⟨w.heap.size, 0, none⟩ = some (.slice av ln.length cv) by go_simp)
  have hq1 := hd (show (((w.alloc (.cells #[.slice av ln.length cv] 39)).alloc (.cells #[.slice a1 l.length c1] 28)).alloc (.cells #[.slice none 0 0] 39)).cell? ⟨w.heap.size + 1, 0, none⟩ = some (.slice a1 l.length c1) by go_simp)
  have hret := hd (fun (wr : World) (hw : Below w.heap.size w wr) (h0 : b = false ∧ r = []) => (show AggbPost 113 5 (r.map DNode.enc) b w (.returned (.tuple #[.agg #[.slice none 0 0], .bool false])) (wr.setCell ⟨w.heap.size + 1 + 1, 0, none⟩ (.slice none 0 0)) from
    ⟨_, none, by rw [h0.1], by rw [h0.2]; exact OwnR.nil, hw.setCell (by show w.heap.size ≤ w.heap.size + 1 + 1; omega) _⟩))
  have hsW : (((w.alloc (.cells #[.slice av ln.length cv] 39)).alloc (.cells #[.slice a1 l.length c1] 28)).alloc (.cells #[.slice none 0 0] 39)).heap.size = w.heap.size + 3 := by simp
  cases f with
  | false =>
    have hno := hd (getP_no hr (fun q => absurd (hf.2 (getC_fit q)) (by simp)))
    clear hf r0 r1
    replace hr := hd hr
    go_enter Try.func38, Try.ntmps38
    go_upto_region 1 with (fail)
    generalize ((w.alloc (.cells #[.slice av ln.length cv] 39)).alloc (.cells #[.slice a1 l.length c1] 28)).alloc (.cells #[.slice none 0 0] 39) = W at *
    have q0 := hq0.out
    have q1 := hq1.out
    go_wp2_with fail
    refine (cf.out _ hbW.out).mono ?_
    rintro e w2 ⟨rfl, hb2⟩
    have hB := hd (hbW.out.next hb2)
    have hx2 := hd (hx.out.below hb2)
    have Q1 := hx2.out.1; have Q2 := hx2.out.2
    clear hb2 q0 q1
    go_wp2_with fail
    exact bodyPost_ret (v := .tuple #[.agg #[.slice none 0 0], .bool false]) (by simp [results, Try.results38, go_sem, Q1]) rfl (hret.out _ hB.out hno.out)
  | true =>
    obtain ⟨t, u, hgp, ht, hhd, hu, hfu⟩ := fitP_open (hf.1 rfl)
    have hnp := (nodes_tree ln).2 ⟨hhd, u, hu⟩
    have hcu := enc_count u _ _ hu
    have hn40 := hhd.1.2
    have hsm := good_small ht.2
    have rA := hd (fun w' (hbb : Below w.heap.size w w') => r1.out w' hbb (by omega) hnp u hu)
    have rB := hd (fun w' (hbb : Below w.heap.size w w') => r0.out w' hbb hgp t ht)
    have hcy := hd (fun hy i (hi : firstP u.parts no i) => getP_yes hr hy hu hi)
    have hcn := hd (fun hn => getP_no hr hn)
    have hmk := hd (fun j (hj : firstP t.parts no j) (h5 : (t.parts[j]'hj.1).of = 5) i (hi : firstP u.parts no i) => (show getC ln l no from ⟨t, u, j, i, ht, hgp, hhd, hu, hfu, ⟨hj, h5⟩, hi⟩))
    have hun := hd (fun hy => getC_of (no := no) ht hu hy)
    have hlt : t.parts.length ≤ 100 := by have h1 := len_count t.parts; have h2 := countK_eq t; omega
    have hlu : countK u ≤ 40 := by omega
    have hlu2 : countL u.parts ≤ 40 := by have h2 := countK_eq u; omega
    have hlu3 : u.parts.length ≤ 40 := by have h1 := len_count u.parts; omega
    clear hf ht hgp hhd hnp hr r0 r1 hnm hs hfu hu hcu hsm hn40
    go_enter Try.func38, Try.ntmps38
    go_upto_region 1 with (fail)
    generalize ((w.alloc (.cells #[.slice av ln.length cv] 39)).alloc (.cells #[.slice a1 l.length c1] 28)).alloc (.cells #[.slice none 0 0] 39) = W at *
    have q0 := hq0.out
    have q1 := hq1.out
    go_wp2_with fail
    refine (cf.out _ hbW.out).mono ?_
    rintro e w2 ⟨rfl, hb2⟩
    have hB := hd (hbW.out.next hb2)
    have hx2 := hd (hx.out.below hb2)
    have q0' := keepCell hb2 q0
    have q1' := keepCell hb2 q1
    clear hb2 q0 q1
    go_wp2_with fail
    refine (rB.out _ hB.out).mono ?_
    rintro e w3 ⟨rt, rfl, hRT, hb3⟩
    have hB3 := hd (hB.out.next hb3)
    have hx3 := hd (hx2.out.below hb3)
    have q0 := keepCell hb3 q0'
    obtain ⟨aT, cT, rwT, rfl, hST, hlT, hgT⟩ := hRT.open
    have cb := hd (by_s t no aT cT rwT w3 _ _ (Nat.le_refl _) (by omega) hST hlT hgT)
    have hgT := hd hgT
    clear hb3 q0' q1' hRT hST
    go_wp2_with fail
    refine cb.out.mono ?_
    rintro e w4 ⟨hp1, hp2, hb4⟩
    have hB4 := hd (hB3.out.next hb4)
    have hx4 := hd (hx3.out.below hb4)
    have q0' := keepCell hb4 q0
    clear q0
    have hb4 := hd hb4
    rcases first_or t.parts no with ⟨j, hj⟩ | hnone
    · obtain ⟨hjr, rfl⟩ := hp1 j hj
      have rp := hgT.out j hj.1 hjr
      obtain ⟨a6, c6, rows6, hr6, _⟩ := rp.open
      rw [hr6]
      have hmkj := hd (fun h5 => hmk.out j hj h5)
      have hunj := hd (fun hy => (show (t.parts[j]'hj.1).of = 5 from by
        obtain ⟨⟨j', hj', h5⟩, _⟩ := hun.out hy
        obtain rfl := first_uniq hj hj'
        exact h5))
      clear hp1 hp2 rp hr6
      generalize t.parts[j]'hj.1 = y at *
      have hX := hd (show BoxN (w4.alloc (.cells #[.int .i64 y.of, .string y.name, .int .i64 y.no, .bool y.must, .int .i64 y.most, .slice a6 y.parts.length c6] 74)) w4.heap.size [.int .i64 y.of, .string y.name, .int .i64 y.no, .bool y.must, .int .i64 y.most, .slice a6 y.parts.length c6] from BoxN.new w4 _ _)
      have hal := hd (below_a1 w4 (a := .cells #[.int .i64 y.of, .string y.name, .int .i64 y.no, .bool y.must, .int .i64 y.most, .slice a6 y.parts.length c6] 74))
      go_upto_region 4 with (fail)
      generalize w4.alloc (.cells #[.int .i64 y.of, .string y.name, .int .i64 y.no, .bool y.must, .int .i64 y.most, .slice a6 y.parts.length c6] 74) = W5 at *
      have hB5 := hd (hB4.out.next hal.out)
      have hx5 := hd (hx4.out.below hal.out)
      have q5 := keepCell hal.out q0'
      have x0 := hX.out.1 0 _ rfl
      by_cases h5 : y.of = 5
      · have h5b : (y.of != 5) = false := by simpa using h5
        have hmk5 := hd (hmkj.out h5)
        clear hmkj hunj q0'
        replace h5 := hd h5
        go_wp2_with fail
        refine (rA.out _ hB5.out).mono ?_
        rintro e w6 ⟨ru, rfl, hRU, hb6⟩
        have hB6 := hd (hB5.out.next hb6)
        have hx6 := hd (hx5.out.below hb6)
        have hRU6 := hRU
        obtain ⟨aU, cU, rwU, rfl, hSU, hlU, hgU⟩ := hRU6.openV
        have hSU := hd hSU
        have hgU := hd hgU
        have hz6 : w.heap.size + 3 ≤ w6.heap.size := by have := hb6.size; have := hB5.out.size; have h7 := hb4.out.size; have h8 := hx6.out.lt; omega
        have hfd : ∀ w', Sem.run Try.prog (Instr.field 93 (.agg #[.int .i64 u.most, .string u.name, .int .i64 u.no, .bool u.must, .slice aU u.parts.length cU]) 4) w' = .ok (.slice aU u.parts.length cU) w' := fun _ => by kernel_rfl
        clear hb6 q5 x0 hRU
        go_wp2_with fail
        clear hfd
        go_loopw [36] (fun n wr => ∃ k : Nat, k ≤ u.parts.length ∧ n = .int .i64 k ∧ Hd (∀ i (h : i < u.parts.length), i < k → u.parts[i].no ≠ no) ∧ Hd (Below w6.heap.size w6 wr)) (fun n _ => u.parts.length - (intOf n).toNat)
        case atStart => exact ⟨0, Nat.zero_le _, rfl, (fun i _ h0 => absurd h0 (by omega)), Below.refl _ _⟩
        case round =>
          obtain ⟨k, hk, rfl, hnoK, hbl⟩ := hrel
          obtain ⟨wo, rfl⟩ : ∃ wo : World, wo = wr := ⟨_, rfl⟩
          have hxo := hd (hx6.out.below hbl.out)
          have hBo := hd (hB6.out.next hbl.out)
          by_cases hlt2 : k < u.parts.length
          · have hltI : (k : Int) < (u.parts.length : Int) := by omega
            obtain ⟨b3, rfl, hb3, hc3⟩ := hSU.out.at (j := k) (by omega)
            have hck := hc3 k (by omega)
            have rpu := (hgU.out k hlt2 (by omega)).same (Same.below hbl.out (Nat.le_refl _)) (Nat.le_refl _) hbl.out.size _ _
            obtain ⟨a8, c8, rows8, hr8, _⟩ := rpu.openV
            rw [hr8] at hck rpu
            have d0 := keepCell hbl.out (hck 0 _ rfl)
            have d1 := keepCell hbl.out (hck 1 _ rfl)
            have d2 := keepCell hbl.out (hck 2 _ rfl)
            have d3 := keepCell hbl.out (hck 3 _ rfl)
            have d4 := keepCell hbl.out (hck 4 _ rfl)
            rw [Nat.add_zero] at d0
            have hcx := count_part (List.getElem_mem hlt2)
            have hfst := hd (fun (h : u.parts[k].no = no) => (show firstP u.parts no k from ⟨hlt2, h, fun i hi => hnoK.out i (by omega) hi⟩))
            have hyes := hd (fun (h : u.parts[k].no = no) => (show b = true ∧ r = rowsV (withNo u.parts[k] 0) (-1) 0 from hcy.out (hmk5.out k (hfst.out h)) k (hfst.out h)))
            have hnxt := hd (fun (h : u.parts[k].no ≠ no) i (hi : i < u.parts.length) (hik : i < k + 1) => (show u.parts[i].no ≠ no from by
              by_cases e : i = k
              · subst e; exact h
              · exact hnoK.out i hi (by omega)))
            have rpu := hd rpu
            clear hc3 hck hr8
            generalize u.parts[k] = x at *
            have hXx := hd (show BoxN (wo.alloc (.cells #[.int .i64 x.most, .string x.name, .int .i64 x.no, .bool x.must, .slice a8 x.parts.length c8] 93)) wo.heap.size [.int .i64 x.most, .string x.name, .int .i64 x.no, .bool x.must, .slice a8 x.parts.length c8] from BoxN.new wo _ _)
            have hal2 := hd (below_a1 wo (a := .cells #[.int .i64 x.most, .string x.name, .int .i64 x.no, .bool x.must, .slice a8 x.parts.length c8] 93))
            go_upto_region 9 with (fail)
            generalize wo.alloc (.cells #[.int .i64 x.most, .string x.name, .int .i64 x.no, .bool x.must, .slice a8 x.parts.length c8] 93) = W7 at *
            clear d0 d1 d2 d3 d4
            have p2 := hXx.out.1 2 _ rfl
            have hB7 := hd (hBo.out.next hal2.out)
            have hx7 := hd (hxo.out.below hal2.out)
            by_cases hxn : x.no = no
            · have hxnb : (x.no == no) = true := by simpa using hxn
              have hres := hd (hyes.out hxn)
              clear hyes hnxt hfst hmk5 hcy hcn hun
              replace hxn := hd hxn
              have f2 := hXx.out.2.1 2
              have hX8 := hd (hXx.out.set (i := 2) (by simp) (.int .i64 0))
              have hg8 := hd (grownBy_setCell W7 ⟨wo.heap.size, 2, none⟩ (.int .i64 0))
              have hB8 := hd (hB7.out.grown hg8.out hB7.out.size (fun g hg => by cases hg; have := hBo.out.size; exact this))
              have hzo : w.heap.size + 3 ≤ wo.heap.size := by have := hbl.out.size; omega
              have hx8 := hd (hx7.out.grown hg8.out (fun e => by have : w.heap.size + 1 + 1 = wo.heap.size := Option.some.inj e; omega))
              have hRx7 := RepX.below rpu.out (Nat.le_refl _) hal2.out
              have hRx8 := RepX.same (Same.grown hg8.out hal2.out.size (fun g hg => by cases hg; right; exact Nat.le_refl _)) (Nat.le_refl _) (Nat.le_refl _) _ _ hRx7
              have hR8 := hd (hRx8.withNo 0)
              clear hRx7 hRx8
              have co := hd (ofV_s (withNo x 0) _ (W7.setCell ⟨wo.heap.size, 2, none⟩ (.int .i64 0)) _ _ (by have := hg8.out.size; have := hal2.out.size; omega) (by have h1 := countK_withNo x 0; omega) hR8.out)
              rw [← hres.out.2] at co
              have u0 := hX8.out.1 0 _ rfl; have u1 := hX8.out.1 1 _ rfl; have u2 := hX8.out.1 2 _ rfl; have u3 := hX8.out.1 3 _ rfl; have u4 := hX8.out.1 4 _ rfl
              clear hX8
              go_wp2_with fail
              refine co.out.mono ?_
              rintro e w9 ⟨v9, rb9, rfl, ho9, hb9⟩
              have hB9 := hd (hB8.out.next hb9)
              have hx9 := hd (hx8.out.below hb9)
              obtain ⟨a9, c9, rfl, hjk⟩ := ho9.sl
              clear hjk hb9
              simp only [List.length_map] at ho9 ⊢
              have Q1 := hx9.out.1; have Q2 := hx9.out.2
              have hz8 : w.heap.size + 3 ≤ (W7.setCell ⟨wo.heap.size, 2, none⟩ (.int .i64 0)).heap.size := by have := hg8.out.size; have := hal2.out.size; omega
              replace ho9 := hd ho9
              clear u0 u1 u2 u3 u4
              go_wp2_with fail
              refine bodyPost_ret (v := .tuple #[.agg #[.slice a9 r.length c9], .bool true]) (by simp [results, Try.results38, go_sem, Q1]) rfl ?_
              rw [hres.out.1]
              exact AggbPost.of (rb := rb9) (ownR_store ho9.out (by omega) (by omega)) (hB9.out.setCell (by show w.heap.size ≤ w.heap.size + 1 + 1; omega) _)
            · have hxnb : (x.no == no) = false := by simpa using hxn
              have hn2 := hd (hnxt.out hxn)
              have hblN := hd (hbl.out.next hal2.out)
              clear hyes hnxt hfst
              replace hxn := hd hxn
              go_wp2_with fail
              go_roundw
              case rel => exact ⟨k + 1, by omega, by go_num, hn2, hblN⟩
              case measure => simp [intOf]; omega
          · obtain rfl : k = u.parts.length := by omega
            have hltI : ¬ (u.parts.length : Int) < (u.parts.length : Int) := by omega
            have hno := hd (hcn.out (fun q => by
              obtain ⟨_, i, hi⟩ := hun.out q
              exact hnoK.out i hi.1 hi.1 hi.2.1))
            have Q1 := hxo.out.1; have Q2 := hxo.out.2
            go_wp2_with fail
            exact bodyPost_ret (v := .tuple #[.agg #[.slice none 0 0], .bool false]) (by simp [results, Try.results38, go_sem, Q1]) rfl (hret.out _ hBo.out hno.out)
      · have h5b : (y.of != 5) = true := by simpa using h5
        have hno := hd (hcn.out (fun q => h5 (hunj.out q)))
        have Q1 := hx5.out.1; have Q2 := hx5.out.2
        clear hmkj hunj
        replace h5 := hd h5
        go_wp2_with fail
        exact bodyPost_ret (v := .tuple #[.agg #[.slice none 0 0], .bool false]) (by simp [results, Try.results38, go_sem, Q1]) rfl (hret.out _ hB5.out hno.out)
    · obtain rfl := hp2 hnone
      have hno := hd (hcn.out (fun q => by
        obtain ⟨⟨j', hj', _⟩, _⟩ := hun.out q
        exact none_first hnone hj'))
      have hal := hd (below_a1 w4 (a := .cells #[.int .i64 0, .string ⟨#[]⟩, .int .i64 0, .bool false, .int .i64 0, .slice none 0 0] 74))
      have hB5 := hd (hB4.out.next hal.out)
      have hx5 := hd (hx4.out.below hal.out)
      clear hp1 hp2 q0'
      go_upto_region 4 with (fail)
      generalize w4.alloc (.cells #[.int .i64 0, .string ⟨#[]⟩, .int .i64 0, .bool false, .int .i64 0, .slice none 0 0] 74) = W5 at *
      have Q1 := hx5.out.1; have Q2 := hx5.out.2
      go_wp2_with fail
      exact bodyPost_ret (v := .tuple #[.agg #[.slice none 0 0], .bool false]) (by simp [results, Try.results38, go_sem, Q1]) rfl (hret.out _ hB5.out hno.out)
end Go.Proofs.Ytobahkjbadamhaa
