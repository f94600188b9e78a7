/- The text of a type: l3Type of the reference. -/
import Derived.Test.YtcepnifcfkgaeaaDoorNumS
namespace Go.Proofs.YtcepnifcfkgaeaaDoor
open Go.RowKit
set_option linter.unusedVariables false
set_option maxRecDepth 100000
set_option maxHeartbeats 12800000 in
theorem text_s (t : K) : ∀ (r : List Value) (w : World) (lo hi : Nat), hi ≤ w.heap.size → countK t ≤ 1000000 → rightK t → RepT w lo hi t r →
    Calls Tryd.prog 11 #[.agg r.toArray] w (TxPost (stK t) w) := by
  refine K.ind2 (P := fun t => ∀ (r : List Value) (w : World) (lo hi : Nat), hi ≤ w.heap.size → countK t ≤ 1000000 → rightK t → RepT w lo hi t r →
    Calls Tryd.prog 11 #[.agg r.toArray] w (TxPost (stK t) w)) ?_ t
  intro t ih ra w lo hi hhi hc hok hA
  obtain ⟨aA, cA, rwA, rfl, hSA, hlA, hgA⟩ := hA.open
  have hla : t.parts.length ≤ 1000000 := by have h1 := len_count t.parts; have h2 := countK_eq t; omega
  have hcq := countK_eq t
  have hqa := hd (fun p (hp : p ∈ t.parts) => (show countK p ≤ 1000000 ∧ rightK p ∧ (stK p).length + 20 ≤ 40 * countK p ∧ countK p ≤ 1000000 from ⟨by have h1 := count_part hp; omega, hok.partS hp, stK_len p (hok.partS hp), by have h1 := count_part hp; omega⟩))
  have hpt := hd (fun p (hp : p ∈ t.parts) => hok.partOfS hp)
  have hps := hok.okS
  have hst := stK_eq t
  obtain ⟨r, hr⟩ : ∃ r, stK t = r := ⟨_, rfl⟩
  rw [hr] at hst ⊢
  have hX := hd (BoxN.new w [.int .i64 t.of, .string t.name, .int .i64 t.no, .bool t.must, .int .i64 t.most, .slice aA t.parts.length cA] 39)
  have hbW := hd (below_a1 w (a := .cells #[.int .i64 t.of, .string t.name, .int .i64 t.no, .bool t.must, .int .i64 t.most, .slice aA t.parts.length cA] 39))
  change Hd (BoxN (w.alloc (.cells #[.int .i64 t.of, .string t.name, .int .i64 t.no, .bool t.must, .int .i64 t.most, .slice aA t.parts.length cA] 39)) _ _) at hX
  clear hA hr hok
  have hmx : Tryd.prog.follows .mixedOrders = true := by kernel_rfl
  go_enter Tryd.func11, Tryd.ntmps11
  go_upto_region 1 with (fail)
  generalize w.alloc (.cells #[.int .i64 t.of, .string t.name, .int .i64 t.no, .bool t.must, .int .i64 t.most, .slice aA t.parts.length cA] 39) = W at *
  have x0 := hX.out.1 0 _ rfl; have x1 := hX.out.1 1 _ rfl; have x2 := hX.out.1 2 _ rfl; have x3 := hX.out.1 3 _ rfl; have x4 := hX.out.1 4 _ rfl; have x5 := hX.out.1 5 _ rfl
  rcases hps with ⟨ho, -, -⟩ | ⟨ho, hm, -⟩ | ⟨ho, -, h1⟩ | ⟨ho, -, -⟩
  · rcases ho with ho | ho
    · rw [if_pos ho] at hst
      have hres := hd hst
      rw [ho] at x0
      clear ih hSA hgA hqa hst hlA hpt
      go_wp2_with fail
      go_ret
      exact ⟨ret_str (by rw [hres.out] <;> rfl), hbW.out⟩
    · rw [if_neg (by omega), if_pos ho] at hst
      have hres := hd hst
      rw [ho] at x0
      clear ih hSA hgA hqa hst hlA hpt
      go_wp2_with fail
      go_ret
      exact ⟨ret_str (by rw [hres.out] <;> rfl), hbW.out⟩
  · rw [if_neg (by omega), if_neg (by omega), if_pos ho] at hst
    have hres := hd hst
    rw [ho] at x0
    have ci := hd (fun w' => num_s t.most w' (by omega))
    have hdl := digN_len (n := t.most) (by omega)
    have hms := mkS_size (digN t.most)
    have hz1 : (⟨#[101, 110, 117, 109, 40]⟩ : ByteArray).size + (mkS (digN t.most)).size ≤ 20 := by rw [hms]; show 5 + _ ≤ _; omega
    have hz2 : (⟨#[101, 110, 117, 109, 40]⟩ ++ mkS (digN t.most) : ByteArray).size + (⟨#[41]⟩ : ByteArray).size ≤ 20 := by rw [ByteArray.size_append, hms]; show 5 + _ + 1 ≤ _; omega
    clear ih hSA hgA hqa hst hlA hpt
    generalize digN t.most = dn at *
    go_wp2_with fail
    refine (ci.out _).mono ?_
    rintro e w2 ⟨rfl, hb2⟩
    have hbl := hd (hbW.out.next hb2)
    go_wp2_with fail
    go_ret
    exact ⟨ret_str (by rw [hres.out]; exact (by rw [← mkS_append, ← mkS_append] : _ = mkS ([101, 110, 117, 109, 40] ++ dn ++ [41]))), hbl.out⟩
  · rw [if_neg (by omega), if_neg (by omega), if_neg (by omega), if_pos ho, stH_one h1] at hst
    have hres := hd hst
    rw [ho] at x0
    have hp0 : t.parts[0]'(by omega) ∈ t.parts := List.getElem_mem _
    have hx := hqa.out _ hp0
    obtain ⟨b1, rfl, hb1, hc1⟩ := hSA.at (j := 0) (by omega)
    have hp := (hgA 0 (by omega) (by omega)).same (Same.below hbW.out hhi) (Nat.le_refl _) (Nat.le_refl _) _ _
    have hck := hc1 0 (by omega)
    obtain ⟨ak, ck, rowsk, hrk, hjk⟩ := hp.open
    clear hjk
    rw [hrk] at hck hp
    have d0 := keepCell hbW.out (show w.cell? ⟨b1, 0, none⟩ = _ from hck 0 _ rfl)
    have d1 := keepCell hbW.out (show w.cell? ⟨b1, 1, none⟩ = _ from hck 1 _ rfl)
    have d2 := keepCell hbW.out (show w.cell? ⟨b1, 2, none⟩ = _ from hck 2 _ rfl)
    have d3 := keepCell hbW.out (show w.cell? ⟨b1, 3, none⟩ = _ from hck 3 _ rfl)
    have d4 := keepCell hbW.out (show w.cell? ⟨b1, 4, none⟩ = _ from hck 4 _ rfl)
    have d5 := keepCell hbW.out (show w.cell? ⟨b1, 5, none⟩ = _ from hck 5 _ rfl)
    have cy := hd (ih _ hp0 _ W lo hi (Nat.le_trans hhi hbW.out.size) hx.1 hx.2.1 hp)
    have hms := mkS_size (stK (t.parts[0]'(by omega)))
    have hz1 : (⟨#[91]⟩ : ByteArray).size + (mkS (stK (t.parts[0]'(by omega)))).size ≤ 100000000 := by rw [hms]; show 1 + _ ≤ _; omega
    have hz2 : (⟨#[91]⟩ ++ mkS (stK (t.parts[0]'(by omega))) : ByteArray).size + (⟨#[93]⟩ : ByteArray).size ≤ 100000000 := by rw [ByteArray.size_append, hms]; show 1 + _ + 1 ≤ _; omega
    rw [h1] at x5
    clear ih hSA hgA hqa hst hpt hx hms hp0 hc1 hck hrk hp
    generalize stK (t.parts[0]'(by omega)) = tk at *
    generalize t.parts[0]'(by omega) = p at *
    go_wp2_with fail
    refine cy.out.mono ?_
    rintro e w2 ⟨rfl, hb2⟩
    have hbl := hd (hbW.out.next hb2)
    go_wp2_with fail
    go_ret
    exact ⟨ret_str (by rw [hres.out]; exact (by rw [← mkS_append, ← mkS_append] : _ = mkS ([91] ++ tk ++ [93]))), hbl.out⟩
  · rw [if_neg (by omega), if_neg (by omega), if_neg (by omega), if_neg (by omega)] at hst
    have hres := hd hst
    have hpls := pcs_len (o := 5) (ps := t.parts) (fun p hp => by have := hpt.out p hp; rwa [ho] at this) (fun p hp => (hqa.out p hp).2.2.1)
    have hjl := join_le hpls
    rw [ho] at x0 hpt
    replace ho := hd ho
    have hfst := hd (fun (h : 0 < t.parts.length) => jn_first (xs := t.parts.map pcK) (x := pcK t.parts[0]) (by simp [h]))
    have hnxt := hd (fun k (h0 : 0 < k) (h : k < t.parts.length) => jn_next (xs := t.parts.map pcK) (x := pcK t.parts[k]) h0 (by simp [h]))
    have hspk := hd (fun k (h : k < t.parts.length) => (show (Lib.join ((t.parts.map pcK).take k) [44]).length + (pcK t.parts[k]).length + 1 ≤ 40000000 from by
      have h3 := jn_len (xs := t.parts.map pcK) k
      have h4 := Lib.lens_take_succ (t.parts.map pcK) k (pcK t.parts[k]) (by simp [h])
      have h5 := Lib.lens_take_le (t.parts.map pcK) (k + 1)
      omega))
    clear hst x1 x2 x3 x4
    replace hgA := hd hgA
    replace hlA := hd hlA
    replace ih := hd ih
    go_wp2_with fail
    go_loopw [3, 31] (fun s i wr => ∃ k : Nat, s = .string (mkS ([123] ++ Lib.join ((t.parts.map pcK).take k) [44])) ∧ i = .int .i64 k ∧ k ≤ t.parts.length ∧ Hd (Below W.heap.size W wr)) (fun _ i _ => t.parts.length - (intOf i).toNat)
    case atStart => exact ⟨0, by rw [List.take_zero, Lib.join_nil] <;> rfl, rfl, Nat.zero_le _, Below.refl _ _⟩
    case round =>
      obtain ⟨k, rfl, rfl, hk, hbl⟩ := hrel
      obtain ⟨wo, rfl⟩ : ∃ wo : World, wo = wr := ⟨_, rfl⟩
      have hbw := hd (hbW.out.next hbl.out)
      by_cases hlt : k < t.parts.length
      · have hltI : (k : Int) < (t.parts.length : Int) := by omega
        have hkA : k < rwA.length := by have := hlA.out; omega
        obtain ⟨b1, rfl, hb1, hc1⟩ := hSA.at (j := k) hkA
        have rx := (hgA.out k hlt hkA).same (Same.below hbw.out hhi) (Nat.le_refl _) (Nat.le_refl _) _ _
        obtain ⟨aX, cX, rX, hrX, hj1⟩ := rx.open
        clear hj1
        have q1 := hc1 k hkA
        rw [hrX] at q1 rx
        have hxm := hqa.out _ (List.getElem_mem hlt)
        have hpo := (hpt.out _ (List.getElem_mem hlt)).1 rfl
        have hpl := pcM_len (hpt.out _ (List.getElem_mem hlt))
        have ck := hd (fun (w' : World) (hw : Below wo.heap.size wo w') => ih.out t.parts[k] (List.getElem_mem hlt) _ w' lo hi (Nat.le_trans hhi (Nat.le_trans hbw.out.size hw.size)) hxm.1 hxm.2.1 (rx.same (Same.below hw (Nat.le_trans hhi hbw.out.size)) (Nat.le_refl _) (Nat.le_refl _) _ _))
        have d0 := keepCell hbw.out (show w.cell? ⟨b1, k * 6, none⟩ = _ from q1 0 _ rfl)
        have d1 := keepCell hbw.out (q1 1 _ rfl)
        have d2 := keepCell hbw.out (q1 2 _ rfl)
        have d3 := keepCell hbw.out (q1 3 _ rfl)
        have d4 := keepCell hbw.out (q1 4 _ rfl)
        have d5 := keepCell hbw.out (q1 5 _ rfl)
        have hsp := hspk.out k hlt
        have hf := hd (fun (e : k = 0) => (show [123] ++ Lib.join ((t.parts.map pcK).take (k + 1)) [44] = ([123] ++ Lib.join ((t.parts.map pcK).take k) [44]) ++ pcK t.parts[k] from by
          subst e; rw [hfst.out hlt, List.take_zero, Lib.join_nil, List.append_nil]))
        have hn := hd (fun (e : 0 < k) => (show [123] ++ Lib.join ((t.parts.map pcK).take (k + 1)) [44] = ([123] ++ Lib.join ((t.parts.map pcK).take k) [44]) ++ [44] ++ pcK t.parts[k] from by
          rw [hnxt.out k e hlt]; simp [List.append_assoc]))
        have hlen0 : ([123] ++ Lib.join ((t.parts.map pcK).take k) [44]).length + (pcK t.parts[k]).length ≤ 40000001 := by rw [List.length_append]; show 1 + _ + _ ≤ _; omega
        clear hc1 q1 hrX rx hsp
        generalize t.parts[k] = p at *
        generalize [123] ++ Lib.join ((t.parts.map pcK).take k) [44] = pk at *
        obtain ⟨pn, hpn⟩ : ∃ pn, [123] ++ Lib.join ((t.parts.map pcK).take (k + 1)) [44] = pn := ⟨_, rfl⟩
        rw [hpn] at hf hn
        have hpne := hd hpn
        clear hpn
        have hX5 := hd (BoxN.new wo [.int .i64 p.of, .string p.name, .int .i64 p.no, .bool p.must, .int .i64 p.most, .slice aX p.parts.length cX] 39)
        have hb5 := hd (below_a1 wo (a := .cells #[.int .i64 p.of, .string p.name, .int .i64 p.no, .bool p.must, .int .i64 p.most, .slice aX p.parts.length cX] 39))
        change Hd (BoxN (wo.alloc (.cells #[.int .i64 p.of, .string p.name, .int .i64 p.no, .bool p.must, .int .i64 p.most, .slice aX p.parts.length cX] 39)) _ _) at hX5
        go_upto_region 14 with (fail)
        generalize wo.alloc (.cells #[.int .i64 p.of, .string p.name, .int .i64 p.no, .bool p.must, .int .i64 p.most, .slice aX p.parts.length cX] 39) = W5 at *
        clear d0 d1 d2 d3 d4 d5 x0 x5
        have hbl5 := hd (hbl.out.next hb5.out)
        have ci := hd (fun w' => num_s p.no w' (by omega))
        have hdl := digN_len (n := p.no) (by omega)
        have hmd := mkS_size (digN p.no)
        have hmk := mkS_size pk
        have hms := mkS_size (stK p)
        have hnz : p.name.size ≤ 10 := hpo.1.2.2
        have hpc : (pcK p).length = (pcM p).length + 1 + (stK p).length := by rw [pcK, List.length_append, List.length_append]; rfl
        have z1 : p.name.size + (⟨#[58]⟩ : ByteArray).size ≤ 20 := by show _ + 1 ≤ _; omega
        have z2 : (p.name ++ ⟨#[58]⟩ : ByteArray).size + (mkS (digN p.no)).size ≤ 20 := by rw [ByteArray.size_append, hmd]; show _ + 1 + _ ≤ _; omega
        have e1 := hd (show p.name ++ ⟨#[58]⟩ ++ mkS (digN p.no) = mkS (pcH p) from by rw [pcH, ← mkS_append, ← mkS_append] <;> rfl)
        have hml : (pcH p).length ≤ 14 := by rw [pcM, List.length_append] at hpl; omega
        have hmh := mkS_size (pcH p)
        have y0 := hX5.out.1 0 _ rfl; have y1 := hX5.out.1 1 _ rfl; have y2 := hX5.out.1 2 _ rfl; have y3 := hX5.out.1 3 _ rfl; have y4 := hX5.out.1 4 _ rfl; have y5 := hX5.out.1 5 _ rfl
        by_cases hk0 : k = 0
        · have hk0b : ¬ (0 : Int) < (k : Int) := by omega
          have hpne2 := hf.out hk0
          have hsq0 : mkS pk ++ mkS (pcK p) = mkS pn := by rw [hpne2, mkS_append]
          have hsz : (mkS pk).size + (pcK p).length ≤ 40000010 := by rw [hmk]; omega
          replace hk0 := hd hk0
          go_upto_region 16 with (fail)
          replace hsq0 := hd hsq0
          generalize mkS pk = sq at *
          have hsq := hsq0
          have z3 : sq.size + (p.name ++ ⟨#[58]⟩ ++ mkS (digN p.no) : ByteArray).size ≤ 80000000 := by rw [ByteArray.size_append, ByteArray.size_append, hmd]; show _ + (_ + 1 + _) ≤ _; omega
          have Y := hd hX5
          replace y0 := cellB y0
          replace y1 := cellB y1
          replace y2 := cellB y2
          have hs3 := hd hms
          have hs1 := hd hmd
          clear hms hmd hmh hmk
          refine wp_region_below hmx (by kernel_rfl) ?_
          repeat (go_big_quiet_step ((go_at_call 22; refine callsB (ci.out _))))
          refine wpQuiet_nil ?_
          intro wq hw'
          obtain ⟨⟨wx, hbq⟩, hw''⟩ := hw'
          subst hw''
          have hbl6 := hd (hbl5.out.next hbq)
          have hb56 := hd (hb5.out.next hbq)
          have hX6 := hd (Y.out.out.below hbq)
          clear y0 y1 y2 y3 y4 y5 hbq Y
          change BoxN wq wo.heap.size [.int .i64 p.of, .string p.name, .int .i64 p.no, .bool p.must, .int .i64 p.most, .slice aX p.parts.length cX] at hX6
          replace hX6 := hd hX6
          have y0 := hX6.out.1 0 _ rfl; have y1 := hX6.out.1 1 _ rfl; have y2 := hX6.out.1 2 _ rfl; have y3 := hX6.out.1 3 _ rfl; have y4 := hX6.out.1 4 _ rfl; have y5 := hX6.out.1 5 _ rfl
          have hs1e := hd (show sq ++ (p.name ++ ⟨#[58]⟩ ++ mkS (digN p.no)) = sq ++ mkS (pcH p) from by rw [e1.out])
          have z4 : (sq ++ (p.name ++ ⟨#[58]⟩ ++ mkS (digN p.no)) : ByteArray).size ≤ 80000000 := by rw [ByteArray.size_append]; exact z3
          generalize sq ++ (p.name ++ ⟨#[58]⟩ ++ mkS (digN p.no)) = s1 at *
          have z6 : (⟨#[32]⟩ : ByteArray).size + (mkS (stK p)).size ≤ 80000000 := by rw [hs3.out]; show 1 + _ ≤ _; omega
          cases hmu : p.must with
          | false =>
            rw [hmu] at y3
            have z7 : s1.size + (⟨#[32]⟩ ++ mkS (stK p) : ByteArray).size ≤ 200000000 := by rw [ByteArray.size_append, hs3.out]; show _ + (1 + _) ≤ _; omega
            have hend := hd (show s1 ++ (⟨#[32]⟩ ++ mkS (stK p)) = mkS pn from by
              rw [hs1e.out, ← hsq.out, pcK, pcM, hmu, if_neg (by simp), List.append_nil, ← mkS_append, ← mkS_append]
              simp only [ByteArray.append_assoc]
              try rfl)
            have cz := hd (ck.out wq hb56.out)
            rw [hmu] at cz
            clear z1 z2 z3 z4
            go_wp2_with fail
            refine cz.out.mono ?_
            rintro e w7 ⟨rfl, hb7⟩
            have hbl7 := hd (hbl6.out.next hb7)
            clear hb7
            go_wp2_with fail
            go_roundw
            case rel => exact ⟨k + 1, by rw [hend.out, hpne.out], by go_num, by omega, hbl7⟩
            case measure => simp [intOf]; omega
          | true =>
            rw [hmu] at y3
            have z8 : s1.size + (⟨#[33]⟩ : ByteArray).size ≤ 90000000 := by show _ + 1 ≤ _; omega
            have z7 : (s1 ++ ⟨#[33]⟩ : ByteArray).size + (⟨#[32]⟩ ++ mkS (stK p) : ByteArray).size ≤ 200000000 := by rw [ByteArray.size_append, ByteArray.size_append, hs3.out]; show _ + 1 + (1 + _) ≤ _; omega
            have hend := hd (show s1 ++ ⟨#[33]⟩ ++ (⟨#[32]⟩ ++ mkS (stK p)) = mkS pn from by
              rw [hs1e.out, ← hsq.out, pcK, pcM, hmu, if_pos rfl, ← mkS_append, ← mkS_append, ← mkS_append]
              simp only [ByteArray.append_assoc]
              try rfl)
            have cz := hd (ck.out wq hb56.out)
            rw [hmu] at cz
            clear z1 z2 z3 z4
            go_wp2_with fail
            refine cz.out.mono ?_
            rintro e w7 ⟨rfl, hb7⟩
            have hbl7 := hd (hbl6.out.next hb7)
            clear hb7
            go_wp2_with fail
            go_roundw
            case rel => exact ⟨k + 1, by rw [hend.out, hpne.out], by go_num, by omega, hbl7⟩
            case measure => simp [intOf]; omega
        · have hk0b : (0 : Int) < (k : Int) := by omega
          have hpne2 := hn.out (by omega)
          have hsq0 : mkS pk ++ ⟨#[44]⟩ ++ mkS (pcK p) = mkS pn := by rw [hpne2, ← mkS_append, ← mkS_append] <;> rfl
          have zk : (mkS pk).size + (⟨#[44]⟩ : ByteArray).size ≤ 50000000 := by rw [hmk]; show _ + 1 ≤ _; omega
          have hsz : (mkS pk ++ ⟨#[44]⟩ : ByteArray).size + (pcK p).length ≤ 40000010 := by rw [ByteArray.size_append, hmk]; show _ + 1 + _ ≤ _; omega
          go_upto_region 16 with (fail)
          replace hsq0 := hd hsq0
          generalize mkS pk ++ ⟨#[44]⟩ = sq at *
          have hsq := hsq0
          have z3 : sq.size + (p.name ++ ⟨#[58]⟩ ++ mkS (digN p.no) : ByteArray).size ≤ 80000000 := by rw [ByteArray.size_append, ByteArray.size_append, hmd]; show _ + (_ + 1 + _) ≤ _; omega
          have Y := hd hX5
          replace y0 := cellB y0
          replace y1 := cellB y1
          replace y2 := cellB y2
          have hs3 := hd hms
          have hs1 := hd hmd
          clear hms hmd hmh hmk
          refine wp_region_below hmx (by kernel_rfl) ?_
          repeat (go_big_quiet_step ((go_at_call 22; refine callsB (ci.out _))))
          refine wpQuiet_nil ?_
          intro wq hw'
          obtain ⟨⟨wx, hbq⟩, hw''⟩ := hw'
          subst hw''
          have hbl6 := hd (hbl5.out.next hbq)
          have hb56 := hd (hb5.out.next hbq)
          have hX6 := hd (Y.out.out.below hbq)
          clear y0 y1 y2 y3 y4 y5 hbq Y
          change BoxN wq wo.heap.size [.int .i64 p.of, .string p.name, .int .i64 p.no, .bool p.must, .int .i64 p.most, .slice aX p.parts.length cX] at hX6
          replace hX6 := hd hX6
          have y0 := hX6.out.1 0 _ rfl; have y1 := hX6.out.1 1 _ rfl; have y2 := hX6.out.1 2 _ rfl; have y3 := hX6.out.1 3 _ rfl; have y4 := hX6.out.1 4 _ rfl; have y5 := hX6.out.1 5 _ rfl
          have hs1e := hd (show sq ++ (p.name ++ ⟨#[58]⟩ ++ mkS (digN p.no)) = sq ++ mkS (pcH p) from by rw [e1.out])
          have z4 : (sq ++ (p.name ++ ⟨#[58]⟩ ++ mkS (digN p.no)) : ByteArray).size ≤ 80000000 := by rw [ByteArray.size_append]; exact z3
          generalize sq ++ (p.name ++ ⟨#[58]⟩ ++ mkS (digN p.no)) = s1 at *
          have z6 : (⟨#[32]⟩ : ByteArray).size + (mkS (stK p)).size ≤ 80000000 := by rw [hs3.out]; show 1 + _ ≤ _; omega
          cases hmu : p.must with
          | false =>
            rw [hmu] at y3
            have z7 : s1.size + (⟨#[32]⟩ ++ mkS (stK p) : ByteArray).size ≤ 200000000 := by rw [ByteArray.size_append, hs3.out]; show _ + (1 + _) ≤ _; omega
            have hend := hd (show s1 ++ (⟨#[32]⟩ ++ mkS (stK p)) = mkS pn from by
              rw [hs1e.out, ← hsq.out, pcK, pcM, hmu, if_neg (by simp), List.append_nil, ← mkS_append, ← mkS_append]
              simp only [ByteArray.append_assoc]
              try rfl)
            have cz := hd (ck.out wq hb56.out)
            rw [hmu] at cz
            clear z1 z2 z3 z4
            go_wp2_with fail
            refine cz.out.mono ?_
            rintro e w7 ⟨rfl, hb7⟩
            have hbl7 := hd (hbl6.out.next hb7)
            clear hb7
            go_wp2_with fail
            go_roundw
            case rel => exact ⟨k + 1, by rw [hend.out, hpne.out], by go_num, by omega, hbl7⟩
            case measure => simp [intOf]; omega
          | true =>
            rw [hmu] at y3
            have z8 : s1.size + (⟨#[33]⟩ : ByteArray).size ≤ 90000000 := by show _ + 1 ≤ _; omega
            have z7 : (s1 ++ ⟨#[33]⟩ : ByteArray).size + (⟨#[32]⟩ ++ mkS (stK p) : ByteArray).size ≤ 200000000 := by rw [ByteArray.size_append, ByteArray.size_append, hs3.out]; show _ + 1 + (1 + _) ≤ _; omega
            have hend := hd (show s1 ++ ⟨#[33]⟩ ++ (⟨#[32]⟩ ++ mkS (stK p)) = mkS pn from by
              rw [hs1e.out, ← hsq.out, pcK, pcM, hmu, if_pos rfl, ← mkS_append, ← mkS_append, ← mkS_append]
              simp only [ByteArray.append_assoc]
              try rfl)
            have cz := hd (ck.out wq hb56.out)
            rw [hmu] at cz
            clear z1 z2 z3 z4
            go_wp2_with fail
            refine cz.out.mono ?_
            rintro e w7 ⟨rfl, hb7⟩
            have hbl7 := hd (hbl6.out.next hb7)
            clear hb7
            go_wp2_with fail
            go_roundw
            case rel => exact ⟨k + 1, by rw [hend.out, hpne.out], by go_num, by omega, hbl7⟩
            case measure => simp [intOf]; omega
      · obtain rfl : k = t.parts.length := by omega
        have hltI : ¬ (t.parts.length : Int) < (t.parts.length : Int) := by omega
        have hall : (t.parts.map pcK).take t.parts.length = t.parts.map pcK := List.take_of_length_le (by rw [List.length_map]; exact Nat.le_refl _)
        rw [hall]
        have hms := mkS_size ([123] ++ Lib.join (t.parts.map pcK) [44])
        rw [List.length_append] at hms
        have hfin := hd (show mkS ([123] ++ Lib.join (t.parts.map pcK) [44]) ++ ⟨#[125]⟩ = mkS r from by rw [hres.out, ← mkS_append] <;> rfl)
        have hz1 : (mkS ([123] ++ Lib.join (t.parts.map pcK) [44])).size + (⟨#[125]⟩ : ByteArray).size ≤ 80000000 := by rw [hms]; show 1 + _ + 1 ≤ _; omega
        replace hms := hd hms
        generalize mkS ([123] ++ Lib.join (t.parts.map pcK) [44]) = sv at *
        go_wp2_with fail
        go_ret
        exact ⟨ret_str (by rw [hfin.out]), hbw.out⟩
end Go.Proofs.YtcepnifcfkgaeaaDoor
