/- FilterFits of the reference: a filter's wants against a schema's parts. -/
import Derived.Test.YtibmhnlmdabliaaFits
namespace Go.Proofs.Ytibmhnlmdabliaa
open Go.RowKit
set_option linter.unusedVariables false
set_option maxRecDepth 100000
set_option maxHeartbeats 800000 in
theorem folded_s (o : Int) (v1 v2 v3 v4 v5 : Value) (w : World) :
    Calls Try.prog 109 #[.agg #[.int .i64 o, v1, v2, v3, v4, v5]] w (BoolPost (decide (o = 1 ∨ o = 3)) w) := by
  have hB := hd (below_a1 w (a := .cells #[.int .i64 o, v1, v2, v3, v4, v5] 131))
  by_cases h1 : o = 1
  · subst h1
    go_enter Try.func109, Try.ntmps109
    go_wp2_with fail
    go_ret
    exact ⟨rfl, hB.out⟩
  · have h1b : (o == 1) = false := by simpa using h1
    by_cases h3 : o = 3
    · subst h3
      go_enter Try.func109, Try.ntmps109
      go_wp2_with fail
      go_ret
      exact ⟨rfl, hB.out⟩
    · have h3b : (o == 3) = false := by simpa using h3
      have hz : decide (o = 1 ∨ o = 3) = false := by simp [h1, h3]
      rw [hz]
      clear hz
      go_enter Try.func109, Try.ntmps109
      go_wp2_with fail
      go_ret
      exact ⟨rfl, hB.out⟩
set_option maxHeartbeats 6400000 in
theorem FilterFits_s (l0 : List DWant) (l1 : List DType) (v0 v1 : Value) (w : World) (hl0 : l0.length ≤ 1000000000) (hl1 : l1.length ≤ 1000000000) (hs1 : ∀ x ∈ l1, x.name.size ≤ 1000000000000) (h0 : Sl w v0 6 (l0.map DWant.enc)) (h1 : Sl w v1 6 (l1.map DType.enc)) (r : Bool × Bool) (hr : ffP l0 l1 r) :
    Calls Try.prog 59 #[.agg #[v0], .agg #[v1]] w (BB2Post r w) := by
  obtain ⟨g1, hg1⟩ := boolOf (goodP l1)
  obtain ⟨g0, hg0⟩ : ∃ b, goodFilter l0 = b := ⟨_, rfl⟩
  have k0 := hd (fun w' (hbb : Below w.heap.size w w') => GoodFilter_s l0 v0 w' (by omega) (h0.mono hbb) g0 hg0)
  have k1 := hd (fun w' (hbb : Below w.heap.size w w') => GoodSchema_s l1 v1 w' (by omega) hs1 (h1.mono hbb) g1 hg1)
  have r1 := hd (fun w' (hbb : Below w.heap.size w w') hg t ht => root_s l1 v1 w' hg t ht (h1.mono hbb))
  obtain ⟨a0, c0, rfl, hrr⟩ := h0
  obtain ⟨a1, c1, rfl, -⟩ := h1
  replace hrr := hd hrr
  simp only [List.length_map] at k0 k1 r1 ⊢
  replace hr := hd hr
  replace hg0 := hd hg0
  replace hg1 := hd hg1
  cases g0 with
  | false =>
    have hres := hd (hr.out.2 (fun q => absurd (hg0.out.symm.trans q.2) (by simp)))
    clear hg0 hg1
    go_enter Try.func59, Try.ntmps59
    go_wp2_with fail
    refine (k0.out _ (below_a2 w)).mono ?_
    rintro e w2 ⟨rfl, hb2⟩
    have hB := hd ((below_a2 w).next hb2)
    clear hb2
    go_wp2_with fail
    go_ret2
    exact ⟨by rw [hres.out]; rfl, hB.out⟩
  | true =>
    cases g1 with
    | false =>
      have hres := hd (hr.out.2 (fun q => absurd (hg1.out.2 q.1) (by simp)))
      clear hg0 hg1
      go_enter Try.func59, Try.ntmps59
      go_wp2_with fail
      refine (k0.out _ (below_a2 w)).mono ?_
      rintro e w2 ⟨rfl, hb2⟩
      have q1 := keepCell hb2 (show World.cell? _ ⟨w.heap.size + 1, 0, none⟩ = some (.slice a1 l1.length c1) by go_simp)
      have hB := hd ((below_a2 w).next hb2)
      clear hb2
      go_wp2_with fail
      refine (k1.out _ hB.out).mono ?_
      rintro e w3 ⟨rfl, hb3⟩
      have hB3 := hd (hB.out.next hb3)
      clear hb3
      go_wp2_with fail
      go_ret2
      exact ⟨by rw [hres.out]; rfl, hB3.out⟩
    | true =>
      have hgp := hg1.out.1 rfl
      obtain ⟨tA, htA⟩ := good_tree hgp
      have hz := hd (hr.out.1 tA htA hgp hg0.out)
      have hlp : tA.parts.length ≤ 1000000 := by
        have h1 := len_count tA.parts; have h2 := countK_eq tA; have e0 := enc_count tA _ _ htA.1; have n0 := good_len' hgp; omega
      have rA := hd (fun w' (hbb : Below w.heap.size w w') => r1.out w' hbb hgp tA htA)
      clear hg0 hg1 htA hgp r1
      go_enter Try.func59, Try.ntmps59
      go_wp2_with fail
      refine (k0.out _ (below_a2 w)).mono ?_
      rintro e w2 ⟨rfl, hb2⟩
      have q0 := keepCell hb2 (show World.cell? _ ⟨w.heap.size, 0, none⟩ = some (.slice a0 l0.length c0) by go_simp)
      have q1 := keepCell hb2 (show World.cell? _ ⟨w.heap.size + 1, 0, none⟩ = some (.slice a1 l1.length c1) by go_simp)
      have hB2 := hd ((below_a2 w).next hb2)
      clear hb2
      go_wp2_with fail
      refine (k1.out _ hB2.out).mono ?_
      rintro e w3 ⟨rfl, hb3⟩
      have p0 := keepCell hb3 q0
      have p1 := keepCell hb3 q1
      have hB3 := hd (hB2.out.next hb3)
      clear hb3 q0 q1
      go_wp2_with fail
      refine (rA.out _ hB3.out).mono ?_
      rintro e w4 ⟨rT, rfl, hrA, hb4⟩
      obtain ⟨aA, cA, rowsA, rfl, hSA, hlA, hgA⟩ := hrA.open
      replace hgA := hd hgA
      have hPa := hd (show BoxN (w4.alloc (.cells #[.int .i64 tA.of, .string tA.name, .int .i64 tA.no, .bool tA.must, .int .i64 tA.most, .slice aA tA.parts.length cA] 131)) w4.heap.size [.int .i64 tA.of, .string tA.name, .int .i64 tA.no, .bool tA.must, .int .i64 tA.most, .slice aA tA.parts.length cA] from BoxN.new w4 [.int .i64 tA.of, .string tA.name, .int .i64 tA.no, .bool tA.must, .int .i64 tA.most, .slice aA tA.parts.length cA] _)
      have hpart := hd (fun (no : Int) (w' : World) (hw : Below w4.heap.size w4 w') => by_s tA no aA cA rowsA w' _ w4.heap.size hw.size hlp (hSA.same (Same.below hw (Nat.le_refl _)) (Nat.le_refl _) (Nat.le_refl _)) hlA (fun j h1 h2 => (hgA.out j h1 h2).below (Nat.le_refl _) hw))
      have hB4 := hd (hB3.out.next hb4)
      have hal := below_a1 w4 (a := .cells #[.int .i64 tA.of, .string tA.name, .int .i64 tA.no, .bool tA.must, .int .i64 tA.most, .slice aA tA.parts.length cA] 131)
      have u0 := keepCell hal (keepCell hb4 p0)
      have hB5 := hd (hB4.out.next hal)
      have hb5 := hd hal
      replace hSA := hd hSA
      clear hb4 p0 p1 hal hrA
      go_upto_region 4 with (fail)
      generalize w4.alloc (.cells #[.int .i64 tA.of, .string tA.name, .int .i64 tA.no, .bool tA.must, .int .i64 tA.most, .slice aA tA.parts.length cA] 131) = W at *
      go_wp2_with fail
      go_loopw [24] (fun n wr => ∃ k : Nat, n = .int .i64 k ∧ k ≤ l0.length ∧ Hd (∀ i (h : i < l0.length), i < k → fitW tA l0[i] = true) ∧ Hd (Below W.heap.size W wr)) (fun n _ => l0.length - (intOf n).toNat)
      case atStart => exact ⟨0, rfl, Nat.zero_le _, fun i h1 h2 => by omega, Below.refl _ _⟩
      case round =>
        obtain ⟨k, rfl, hk, hok, hbl⟩ := hrel
        obtain ⟨wo, rfl⟩ : ∃ wo : World, wo = wr := ⟨_, rfl⟩
        have hbw := hd (hB5.out.next hbl.out)
        have hb4w := hd (hb5.out.next hbl.out)
        by_cases hlt : k < l0.length
        · have hltI : (k : Int) < (l0.length : Int) := by omega
          obtain ⟨b1, o1, rfl, C1⟩ := rows_at hrr.out (k := k) (by rw [List.length_map]; exact hlt)
          obtain ⟨f0, f1, f2, f3, f4, f5⟩ := Cells.rowWant l0 k hlt (C1.mono hbw.out)
          have hnext := hd (fun (h : fitW tA l0[k] = true) => (show ∀ i (h : i < l0.length), i < k + 1 → fitW tA l0[i] = true from fun i h1 h2 => by
            by_cases e : i = k
            · subst e; exact h
            · exact hok.out i h1 (by omega)))
          have hstop := hd (fun (h : fitW tA l0[k] = false) => (show l0.all (fitW tA) = false from all_false hlt h))
          generalize l0[k] = x at *
          have hX := hd (show BoxN (wo.alloc (.cells #[.int .i64 x.kind, .int .i64 x.no, .int .i64 x.num, .string x.text, .int .i64 x.a, .int .i64 x.b] 91)) wo.heap.size x.enc from BoxN.new wo x.enc _)
          have hbl2 := hd (hbl.out.next (below_a1 wo (a := .cells #[.int .i64 x.kind, .int .i64 x.no, .int .i64 x.num, .string x.text, .int .i64 x.a, .int .i64 x.b] 91)))
          have hPa4 := hd (hPa.out.below hbl2.out)
          go_upto_region 7 with (fail)
          have p0 := hX.out.1 0 _ rfl
          have p1 := hX.out.1 1 _ rfl
          generalize wo.alloc (.cells #[.int .i64 x.kind, .int .i64 x.no, .int .i64 x.num, .string x.text, .int .i64 x.a, .int .i64 x.b] 91) = W4 at *
          have s0 := hPa4.out.1 0 _ rfl; have s1 := hPa4.out.1 1 _ rfl; have s2 := hPa4.out.1 2 _ rfl; have s3 := hPa4.out.1 3 _ rfl; have s4 := hPa4.out.1 4 _ rfl; have s5 := hPa4.out.1 5 _ rfl
          have hw4 := hd (hb5.out.next hbl2.out)
          have hB4 := hd (hB5.out.next hbl2.out)
          clear f0 f1 f2 f3 f4 f5 hX
          by_cases hno : x.no = 0
          · have hn2 := hd (hnext.out (by simp [fitW, hno]))
            rw [hno] at p1
            clear hno
            go_wp2_with fail
            go_roundw
            case rel => exact ⟨k + 1, by go_num, by omega, hn2, hbl2⟩
            case measure => simp [intOf]; omega
          · have hnob : (x.no == 0) = false := by simpa using hno
            rcases first_or tA.parts x.no with ⟨j, hj⟩ | hnn
            · have hjl := hj.1
              have hjv : j < rowsA.length := by omega
              have hfit := hd (fit_some hno hj)
              have hgj := hgA.out j hjl hjv
              obtain ⟨aX, cX, _, hrX, -⟩ := hgj.open
              replace hj := hd hj
              replace hrX := hd hrX
              clear hgj
              go_wp2_with fail
              refine (hpart.out x.no _ hw4.out).mono ?_
              intro e w5 hp
              obtain ⟨hp1, -, hb6⟩ := hp
              obtain ⟨hjv', rfl⟩ := hp1 j hj.out
              clear hp1
              rw [hrX.out]
              clear hrX
              generalize (tA.parts[j]'hjl) = pj at *
              have hal := below_a1 w5 (a := .cells #[.int .i64 pj.of, .string pj.name, .int .i64 pj.no, .bool pj.must, .int .i64 pj.most, .slice aX pj.parts.length cX] 131)
              have hX7 := hd (show BoxN (w5.alloc (.cells #[.int .i64 pj.of, .string pj.name, .int .i64 pj.no, .bool pj.must, .int .i64 pj.most, .slice aX pj.parts.length cX] 131)) w5.heap.size [.int .i64 pj.of, .string pj.name, .int .i64 pj.no, .bool pj.must, .int .i64 pj.most, .slice aX pj.parts.length cX] from BoxN.new w5 [.int .i64 pj.of, .string pj.name, .int .i64 pj.no, .bool pj.must, .int .i64 pj.most, .slice aX pj.parts.length cX] _)
              have hbl7 := hd ((hbl2.out.next hb6).next hal)
              have hB7 := hd ((hB4.out.next hb6).next hal)
              have p0' := keepCell hal (keepCell hb6 p0)
              clear hb6 hal p0 p1 s0 s1 s2 s3 s4 s5
              have cf := hd (fun w' => folded_s pj.of (.string pj.name) (.int .i64 pj.no) (.bool pj.must) (.int .i64 pj.most) (.slice aX pj.parts.length cX) w')
              go_upto_region 9 with (fail)
              generalize w5.alloc (.cells #[.int .i64 pj.of, .string pj.name, .int .i64 pj.no, .bool pj.must, .int .i64 pj.most, .slice aX pj.parts.length cX] 131) = W7 at *
              have t0 := hX7.out.1 0 _ rfl; have t1 := hX7.out.1 1 _ rfl; have t2 := hX7.out.1 2 _ rfl; have t3 := hX7.out.1 3 _ rfl; have t4 := hX7.out.1 4 _ rfl; have t5 := hX7.out.1 5 _ rfl
              by_cases hkd : x.kind ≤ 3
              · have hk5 : (x.kind == 5) = false := by simp; omega
                by_cases hfo : pj.of = 1 ∨ pj.of = 3
                · have hn2 := hd (hnext.out (by rw [hfit.out]; rcases hfo with h | h <;> simp [foldK, h, hk5]))
                  rw [decide_eq_true hfo] at cf
                  clear hfo hfit hstop hnext
                  go_wp2_with fail
                  refine (cf.out _).mono ?_
                  rintro e w6 ⟨rfl, hb6⟩
                  have hbl6 := hd (hbl7.out.next hb6)
                  have p6 := keepCell hb6 p0'
                  have t60 := keepCell hb6 t0
                  clear hb6
                  go_wp2_with fail
                  go_roundw
                  case rel => exact ⟨k + 1, by go_num, by omega, hn2, hbl6⟩
                  case measure => simp [intOf]; omega
                · have hn2 := hd (hstop.out (by rw [hfit.out]; simp [foldK, hkd]; intro h; omega))
                  rw [decide_eq_false hfo] at cf
                  clear hfo hfit hstop hnext
                  go_wp2_with fail
                  refine (cf.out _).mono ?_
                  rintro e w6 ⟨rfl, hb6⟩
                  have hB6 := hd (hB7.out.next hb6)
                  have p6 := keepCell hb6 p0'
                  have t60 := keepCell hb6 t0
                  clear hb6
                  go_wp2_with fail
                  go_ret2
                  exact ⟨by rw [hz.out, hn2.out]; rfl, hB6.out⟩
              · by_cases hk5 : x.kind = 5
                · have hk5b : (x.kind == 5) = true := by simpa using hk5
                  by_cases ho2 : pj.of = 2
                  · have hn2 := hd (hnext.out (by rw [hfit.out]; simp [hkd, ho2]))
                    rw [ho2] at t0
                    clear ho2 hfit hstop hnext
                    go_wp2_with fail
                    go_roundw
                    case rel => exact ⟨k + 1, by go_num, by omega, hn2, hbl7⟩
                    case measure => simp [intOf]; omega
                  · have ho2b : (pj.of != 2) = true := by simpa using ho2
                    have ho2c : (pj.of == 2) = false := by simpa using ho2
                    have hn2 := hd (hstop.out (by rw [hfit.out]; simp [hk5, ho2]))
                    clear ho2 hfit hstop hnext
                    go_wp2_with fail
                    go_ret2
                    exact ⟨by rw [hz.out, hn2.out]; rfl, hB7.out⟩
                · have hk5b : (x.kind == 5) = false := by simpa using hk5
                  have hn2 := hd (hnext.out (by rw [hfit.out]; simp [hkd, hk5]))
                  clear hfit hstop hnext
                  go_wp2_with fail
                  go_roundw
                  case rel => exact ⟨k + 1, by go_num, by omega, hn2, hbl7⟩
                  case measure => simp [intOf]; omega
            · have hn2 := hd (hstop.out (fit_none hno hnn))
              replace hnn := hd hnn
              go_wp2_with fail
              refine (hpart.out x.no _ hw4.out).mono ?_
              intro e w5 hp
              obtain ⟨-, hp1, hb6⟩ := hp
              obtain rfl := hp1 hnn.out
              clear hp1
              have hB6 := hd ((hB4.out.next hb6).next (below_a1 w5 (a := .cells #[.int .i64 0, .string ⟨#[]⟩, .int .i64 0, .bool false, .int .i64 0, .slice none 0 0] 131)))
              have p0' := keepCell hb6 p0
              clear hb6 p0 p1
              go_wp2_with fail
              go_ret2
              exact ⟨by rw [hz.out, hn2.out]; rfl, hB6.out⟩
        · obtain rfl : k = l0.length := by omega
          have hltI : ¬ (l0.length : Int) < (l0.length : Int) := by omega
          have hn2 := hd (show l0.all (fitW tA) = true from all_true (fun i hi => hok.out i hi hi))
          go_wp2_with fail
          go_ret2
          exact ⟨by rw [hz.out, hn2.out]; rfl, hbw.out⟩
end Go.Proofs.Ytibmhnlmdabliaa
