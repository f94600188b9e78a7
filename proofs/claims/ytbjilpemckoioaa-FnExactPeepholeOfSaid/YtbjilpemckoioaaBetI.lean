/- better of the program. -/
import Derived.Test.YtbjilpemckoioaaDel2
import Derived.Deep.CutRange
import Derived.Test.YtbjilpemckoioaaQuietB
namespace Go.Proofs.Ytbjilpemckoioaa
open Go.RowKit
set_option linter.unusedVariables false
set_option maxRecDepth 100000
set_option maxHeartbeats 12000000 in
theorem better_i (l : List DInstr) (i : Nat) (v : Value) (w : World) (hl : l.length ≤ 60) (hi : i < l.length) (hok : okPr l) (h : Sl w v 6 (l.map DInstr.enc)) (B : Option (List DInstr)) (hB : betterR l i = B) :
    Calls Try.prog 73 #[v, .int .i64 i] w (OwnBPost 119 6 ((B.getD []).map DInstr.enc) B.isSome w) := by
  have hS := hd h
  obtain ⟨a0, k0, rfl, hrr⟩ := h
  obtain ⟨b1, o1, rfl, C1⟩ := rows_at hrr (k := i) (by rw [List.length_map]; omega)
  have HC := hd C1
  simp only [List.length_map] at hS ⊢
  clear hrr
  have hiI : (i : Int) < (l.length : Int) := by omega
  obtain ⟨f0, f1, f2, f3, f4, f5⟩ := Cells.rowInstr l i hi C1
  obtain ⟨m1, u1, u2⟩ : ∃ m, m ≤ i + 1 ∧ i + 1 ≤ m := ⟨i + 1, Nat.le_refl _, Nat.le_refl _⟩
  obtain ⟨m2, u3, u4⟩ : ∃ m, m ≤ i + 2 ∧ i + 2 ≤ m := ⟨i + 2, Nat.le_refl _, Nat.le_refl _⟩
  have hw1 : IntKind.i64.wrap ((i : Int) + 1) = (m1 : Int) := IntWalk.i64_in _ (by omega) |>.trans (by omega)
  have hw2 : IntKind.i64.wrap ((i : Int) + 2) = (m2 : Int) := IntWalk.i64_in _ (by omega) |>.trans (by omega)
  obtain ⟨r1, hr1⟩ : ∃ r, (at0 l (i + 1)).code = r := ⟨_, rfl⟩
  obtain ⟨r2, hr2⟩ : ∃ r, (at0 l (i + 2)).code = r := ⟨_, rfl⟩
  obtain ⟨q1, hq1⟩ : ∃ q, ledB l (i + 1) = q := ⟨_, rfl⟩
  obtain ⟨q2, hq2⟩ : ∃ q, ledB l (i + 2) = q := ⟨_, rfl⟩
  have cl1 := hd (fun w' (hS' : Sl w' (.slice (some ⟨b1, o1, none⟩) l.length k0) 6 (l.map DInstr.enc)) => (show Calls Try.prog 126 #[(.slice (some ⟨b1, o1, none⟩) l.length k0), .int .i64 m1] w' (BoolPost q1 w') from led_i l m1 _ w' (by omega) hS' q1 (by rw [show m1 = i + 1 by omega]; exact hq1)))
  have cl2 := hd (fun w' (hS' : Sl w' (.slice (some ⟨b1, o1, none⟩) l.length k0) 6 (l.map DInstr.enc)) => (show Calls Try.prog 126 #[(.slice (some ⟨b1, o1, none⟩) l.length k0), .int .i64 m2] w' (BoolPost q2 w') from led_i l m2 _ w' (by omega) hS' q2 (by rw [show m2 = i + 2 by omega]; exact hq2)))
  have ck1 := hd (fun w' (hS' : Sl w' (.slice (some ⟨b1, o1, none⟩) l.length k0) 6 (l.map DInstr.enc)) => (show Calls Try.prog 125 #[(.slice (some ⟨b1, o1, none⟩) l.length k0), .int .i64 m1] w' (IntPost r1 w') from codeAt_i l m1 _ w' (by omega) hS' r1 (by rw [show m1 = i + 1 by omega]; exact hr1)))
  have ck2 := hd (fun w' (hS' : Sl w' (.slice (some ⟨b1, o1, none⟩) l.length k0) 6 (l.map DInstr.enc)) => (show Calls Try.prog 125 #[(.slice (some ⟨b1, o1, none⟩) l.length k0), .int .i64 m2] w' (IntPost r2 w') from codeAt_i l m2 _ w' (by omega) hS' r2 (by rw [show m2 = i + 2 by omega]; exact hr2)))
  have hto := hd (show ∀ x ∈ l, 0 ≤ x.to ∧ x.to ≤ 1000 from fun x hx => by
    obtain ⟨j, hj, rfl⟩ := List.getElem_of_mem hx
    have := hok j hj
    unfold instrP at this
    omega)
  obtain ⟨g1, hg1⟩ : ∃ g, isFlip l i = g := ⟨_, rfl⟩
  obtain ⟨g2, hg2⟩ : ∃ g, isJump l i = g := ⟨_, rfl⟩
  obtain ⟨g3, hg3⟩ : ∃ g, isSeek l i = g := ⟨_, rfl⟩
  have hBR := hd hB
  have hF := hd (show g1 = ((at0 l i).code == 4 && (r1 == 4 && !q1)) by rw [← hg1, isFlip, hq1, hr1])
  have hJ := hd hg2
  have hK := hd (show g3 = ((at0 l i).code == 1 && (r1 == 2 && (r2 == 1 && ((at0 l (i + 2)).no == (at0 l i).no && (!q1 && !q2))))) by rw [← hg3, isSeek, hq1, hq2, hr1, hr2])
  have hr2l := hd (fun (e : r2 = 1) => (code_lt (hr2.trans e) (by decide)).1)
  have hB1 := hd (show g1 = true → B = some (cutL l i 2) from fun e => by rw [← hB, betterR, hg1, if_pos e])
  have hB2 := hd (show g1 = false → g2 = true → B = some (l.set i (DInstr.mk (at0 l i).code (at0 l i).kind (at0 l i).no (at0 l i).num (at0 l i).text (at0 l (at0 l i).to.toNat).to)) from fun e e2 => by rw [← hB, betterR, hg1, e, if_neg (by simp), hg2, if_pos e2])
  have hB3 := hd (show g1 = false → g2 = false → g3 = true → B = some (cutL l (i + 2) 1) from fun e e2 e3 => by rw [← hB, betterR, hg1, e, if_neg (by simp), hg2, e2, if_neg (by simp), hg3, if_pos e3])
  have hB4 := hd (show g1 = false → g2 = false → g3 = false → B = none from fun e e2 e3 => by rw [← hB, betterR, hg1, e, if_neg (by simp), hg2, e2, if_neg (by simp), hg3, e3, if_neg (by simp)])
  have hU1 := hd (fun e => flip_use (l := l) (i := i) (hg1.trans e))
  have hU3 := hd (fun e => seek_use (l := l) (i := i) (hg3.trans e))
  have hx0 := hd (at0_lt hi)
  clear hB hBR
  obtain ⟨x, hx⟩ : ∃ x, l[i] = x := ⟨_, rfl⟩
  rw [hx] at f0 f1 f2 f3 f4 f5 hx0
  have HX := hd hx
  clear hx C1 hq1 hq2 hg1 hg2 hg3 hr1 hr2
  have hb4 := hd (below_a1 w (a := .cells #[.int .i64 x.code, .int .i64 x.kind, .int .i64 x.no, .int .i64 x.num, .string x.text, .int .i64 x.to] 119))
  have hx4 := hd (show BoxN (w.alloc (.cells #[.int .i64 x.code, .int .i64 x.kind, .int .i64 x.no, .int .i64 x.num, .string x.text, .int .i64 x.to] 119)) w.heap.size [.int .i64 x.code, .int .i64 x.kind, .int .i64 x.no, .int .i64 x.num, .string x.text, .int .i64 x.to] from BoxN.new w _ _)
  go_enter Try.func73, Try.ntmps73
  go_upto_region 2 with (fail)
  generalize w.alloc (.cells #[.int .i64 x.code, .int .i64 x.kind, .int .i64 x.no, .int .i64 x.num, .string x.text, .int .i64 x.to] 119) = w4 at *
  clear f0 f1 f2 f3 f4 f5
  have p0 := hx4.out.1 0 _ rfl
  go_cut [28] from 12 to 27 (fun t wy => t = .bool g1 ∧ Hd (Below w.heap.size w wy) ∧ Hd (BoxN wy w.heap.size [.int .i64 x.code, .int .i64 x.kind, .int .i64 x.no, .int .i64 x.num, .string x.text, .int .i64 x.to]))
  case first =>
    by_cases h4 : x.code = 4
    · have h4b : (x.code == 4) = true := by simpa using h4
      by_cases hy : r1 = 4
      · have hyb : (r1 == 4) = true := by simpa using hy
        have hg := hd (show g1 = !q1 by rw [hF.out, hx0.out, h4, hy]; simp)
        clear h4 hy
        go_wp2_with fail
        refine (ck1.out _ (hS.out.mono hb4.out)).mono ?_
        rintro e w5 ⟨rfl, hb5⟩
        have hB5 := hd (hb4.out.next hb5)
        have hX5 := hd (hx4.out.below hb5)
        clear hb5
        go_wp2_with fail
        refine (cl1.out _ (hS.out.mono hB5.out)).mono ?_
        rintro e w6 ⟨rfl, hb6⟩
        have hB6 := hd (hB5.out.next hb6)
        have hX6 := hd (hX5.out.below hb6)
        clear hb6
        cases q1
        all_goals
          go_wp2_with fail
          go_meet
          exact ⟨by rw [hg.out]; rfl, hB6, hX6⟩
      · have hyb : (r1 == 4) = false := by simpa using hy
        have hg := hd (show g1 = false by rw [hF.out, hx0.out, hyb]; simp)
        clear h4 hy
        go_wp2_with fail
        refine (ck1.out _ (hS.out.mono hb4.out)).mono ?_
        rintro e w5 ⟨rfl, hb5⟩
        have hB5 := hd (hb4.out.next hb5)
        have hX5 := hd (hx4.out.below hb5)
        clear hb5
        go_wp2_with fail
        go_meet
        exact ⟨by rw [hg.out], hB5, hX5⟩
    · have h4b : (x.code == 4) = false := by simpa using h4
      have hg := hd (show g1 = false by rw [hF.out, hx0.out, h4b]; rfl)
      clear h4
      go_wp2_with fail
      go_meet
      exact ⟨by rw [hg.out], hb4, hx4⟩
  case rest =>
    clear hb4 hx4 p0
    obtain ⟨rfl, hb4, hx4⟩ := hcut
    obtain ⟨W4, hW4⟩ : ∃ z : World, z = wc := ⟨_, rfl⟩
    subst hW4
    cases g1 with
    | true =>
      have kB := hd (hB1.out rfl)
      have hn1 : i + 1 < l.length := (hU1.out rfl).2.1.1
      have cc := hd (without_i l i 2 _ W4 (by omega) (by have := code_not_end hok hn1 (by have := (hU1.out rfl).2.1.2; omega); omega) (by omega) hto.out (hS.out.mono hb4.out))
      clear hB1 hB2 hB3 hB4 hU1 hU3 hF hJ hK
      go_wp2_with fail
      refine cc.out.mono ?_
      rintro e w5 ⟨v5, rfl, ho5, hb5⟩
      have hB5 := hd (hb4.out.next hb5)
      replace ho5 := hd (ho5.weaken hb4.out.size)
      clear hb5
      go_wp2_with fail
      go_ret2
      exact ⟨_, by rw [kB.out]; rfl, by rw [kB.out]; exact ho5.out, hB5.out⟩
    | false =>
      replace hB2 := hd (hB2.out rfl)
      replace hB3 := hd (hB3.out rfl)
      replace hB4 := hd (hB4.out rfl)
      clear hB1 hU1 hF
      go_upto_region 4 with (fail)
      have p0 := hx4.out.1 0 _ rfl
      have p3 := hx4.out.1 3 _ rfl
      have p5 := hx4.out.1 5 _ rfl
      go_cut [54] from 32 to 53 (fun t wy => t = .bool g2 ∧ Hd (Below w.heap.size w wy) ∧ Hd (BoxN wy w.heap.size [.int .i64 x.code, .int .i64 x.kind, .int .i64 x.no, .int .i64 x.num, .string x.text, .int .i64 x.to]))
      case first =>
        by_cases h3 : x.code = 3
        · have h3b : (x.code == 3) = true := by simpa using h3
          have hpi := hok i hi
          rw [HX.out] at hpi
          unfold instrP at hpi
          have ht0 : 0 ≤ x.to := by omega
          have ht1 : x.to < (l.length : Int) := by omega
          obtain ⟨j, hj⟩ : ∃ j, x.to.toNat = j := ⟨_, rfl⟩
          have hjl : j < l.length := by omega
          have hrow := Cells.rowInstr l j hjl HC.out
          have c0 := keepCell hb4.out hrow.1
          have c3 := keepCell hb4.out hrow.2.2.2.1
          have hgj := hd (show g2 = ((l[j]'hjl).code == 3 && (l[j]'hjl).num == x.num) by rw [← hJ.out, isJump, hx0.out, hj, at0_lt hjl, h3]; rfl)
          clear hpi hrow h3
          generalize l[j] = y at *
          by_cases hy : y.code = 3
          · have hyb : (y.code == 3) = true := by simpa using hy
            obtain ⟨qn, hqn⟩ : ∃ q, (y.num == x.num) = q := ⟨_, rfl⟩
            have hg := hd (show g2 = qn by rw [hgj.out, hyb, hqn]; rfl)
            clear hy
            cases qn
            all_goals
              go_wp2_with fail
              go_quiet (fail)
              have hB5 := hd (show Below w.heap.size w (W4.drewN nq) from below_drewN hb4.out nq)
              have hX5 := hd (hx4.out.below (below_drewN (Below.refl _ W4) nq))
              go_wp2_with fail
              go_meet
              exact ⟨by rw [hg.out], hB5, hX5⟩
          · have hyb : (y.code == 3) = false := by simpa using hy
            have hg := hd (show g2 = false by rw [hgj.out, hyb]; rfl)
            clear hy
            go_wp2_with fail
            go_quiet (fail)
            have hB5 := hd (show Below w.heap.size w (W4.drewN nq) from below_drewN hb4.out nq)
            have hX5 := hd (hx4.out.below (below_drewN (Below.refl _ W4) nq))
            go_wp2_with fail
            go_meet
            exact ⟨by rw [hg.out], hB5, hX5⟩
        · have h3b : (x.code == 3) = false := by simpa using h3
          have hg := hd (show g2 = false by rw [← hJ.out, isJump, hx0.out, h3b]; rfl)
          clear h3
          go_wp2_with fail
          go_quiet (fail)
          have hB5 := hd (show Below w.heap.size w (W4.drewN nq) from below_drewN hb4.out nq)
          have hX5 := hd (hx4.out.below (below_drewN (Below.refl _ W4) nq))
          go_wp2_with fail
          go_meet
          exact ⟨by rw [hg.out], hB5, hX5⟩
      case rest =>
        clear hb4 hx4 p0 p3 p5
        obtain ⟨rfl, hb4, hx4⟩ := hcut
        obtain ⟨W5, hW5⟩ : ∃ z : World, z = wc := ⟨_, rfl⟩
        subst hW5
        cases g2 with
        | true =>
          have kB := hd (hB2.out rfl)
          obtain ⟨_, hj1, hj2⟩ : ∃ (h0 : i < l.length) (h1 : l[i].to.toNat < l.length), 0 ≤ l[i].to ∧ l[i].to < (l.length : Int) := by
            obtain ⟨h0, h1, h2, _, _, h3⟩ := jump_use hok hJ.out
            have := hok i h0
            unfold instrP at this
            exact ⟨h0, h1, by omega, by omega⟩
          rw [HX.out] at hj1 hj2
          obtain ⟨ht0, ht1⟩ := hj2
          obtain ⟨j, hj⟩ : ∃ j, x.to.toNat = j := ⟨_, rfl⟩
          rw [hj] at hj1
          have hrow := Cells.rowInstr l j hj1 HC.out
          have c5 := hd hrow.2.2.2.2.2
          have kB2 := hd (show B = some (l.set i ⟨x.code, x.kind, x.no, x.num, x.text, (l[j]'hj1).to⟩) by rw [kB.out, hx0.out, hj, at0_lt hj1])
          clear kB hrow hB2 hB3 hB4 hU3 hJ hK
          obtain ⟨z, hz⟩ : ∃ z, (l[j]'hj1).to = z := ⟨_, rfl⟩
          rw [hz] at c5 kB2
          clear hz
          have c5w := keepCell hb4.out c5.out
          have ccl := hd (clone_instr l _ W5 (by omega) (hS.out.mono hb4.out))
          go_upto_region 6 with (go_at_call 72; refine ccl.out.mono ?_; rintro e w6 ⟨v6, rfl, ho6, hb6⟩; replace ho6 := hd ho6; replace hb6 := hd hb6)
          obtain ⟨g6, c6, hs6, hg61, hg62⟩ := ho6.out.addr (by intro e; have := congrArg List.length e; simp at this; rw [this] at hi; simp at hi)
          rw [hs6] at ho6
          rw [hs6]
          rw [List.length_map] at ho6 ⊢
          have hB6 := hd (hb4.out.next hb6.out)
          have hX6 := hd (hx4.out.below hb6.out)
          have c56 := keepCell hb6.out c5w
          have p5 := hX6.out.1 5 _ rfl
          have hri : (l.map DInstr.enc)[i]? = some x.enc := by rw [List.getElem?_map, List.getElem?_eq_getElem hi, HX.out]; rfl
          have q5 := (ho6.out.cell (j := 5) hri rfl).1
          have r5 := (ho6.out.cell (j := 5) hri rfl).2
          have hst := ho6.out.store (j := 5) hri (by decide) (.int .i64 z)
          have hfin := hd (show Own (w6.setCell ⟨g6, i * 6 + 5, none⟩ (.int .i64 z)) w.heap.size 119 6 (.slice (some ⟨g6, 0, none⟩) l.length c6) (((B.getD [])).map DInstr.enc) from by
            rw [kB2.out, Option.getD_some, List.map_set]
            exact hst.1.weaken hb4.out.size)
          have hbf := hd (show Below w.heap.size w (w6.setCell ⟨g6, i * 6 + 5, none⟩ (.int .i64 z)) from hB6.out.grown hst.2 hB6.out.size (fun q hq => by cases hq; have := hb4.out.size; omega))
          have hsome := hd (show B.isSome = true by rw [kB2.out]; rfl)
          clear hst hri ho6 hb6 hB6 hs6 c5 c5w hx4 ccl
          go_wp2_with fail
          go_ret2
          exact ⟨_, by rw [hsome.out]; rfl, hfin.out, hbf.out⟩
        | false =>
          replace hB3 := hd (hB3.out rfl)
          replace hB4 := hd (hB4.out rfl)
          clear hB2 hJ
          go_upto_region 8 with (fail)
          have p0 := cellB (hx4.out.1 0 _ rfl)
          have p2 := cellB (hx4.out.1 2 _ rfl)
          go_cut [109] from 68 to 108 (fun t wy => t = .bool g3 ∧ Hd (Below w.heap.size w wy))
          case first =>
            have hmx : Try.prog.follows .mixedOrders = true := by kernel_rfl
            by_cases h1 : x.code = 1
            · have h1b : (x.code == 1) = true := by simpa using h1
              by_cases hy : r1 = 2
              · have hyb : (r1 == 2) = true := by simpa using hy
                by_cases hy2 : r2 = 1
                · have hy2b : (r2 == 1) = true := by simpa using hy2
                  have hn := hr2l.out hy2
                  have d2 := cellB (keepCell hb4.out (Cells.rowInstr l (i + 2) hn HC.out).2.2.1)
                  have hs0 := hd (at0_lt hn)
                  rw [show o1 + (i + 2) * 6 = o1 + m2 * 6 by congr 2; omega] at d2
                  generalize l[i + 2] = s at *
                  obtain ⟨qn, hqn⟩ : ∃ q, (s.no == x.no) = q := ⟨_, rfl⟩
                  have hg0 := hd (show g3 = (qn && (!q1 && !q2)) by rw [hK.out, hx0.out, h1b, hyb, hy2b, hs0.out, hqn]; rfl)
                  have n2 : m2 < l.length := by omega
                  have n2I : (m2 : Int) < (l.length : Int) := by omega
                  clear h1 hy hy2 hn
                  cases qn with
                  | false =>
                    have hg := hd (show g3 = false by rw [hg0.out]; rfl)
                    go_wp2_with fail
                    refine wp_region_below hmx (by kernel_rfl) ?_
                    repeat (go_big_quiet_step ((first
                      | (go_at_call_of 125 (m1); refine callsB (ck1.out _ (hS.out.mono (hb4.out.next (BB.h _)))))
                      | (go_at_call_of 125 (m2); refine callsB (ck2.out _ (hS.out.mono (hb4.out.next (BB.h _)))))
                      | (go_at_call_of 126 (m1); refine callsB (cl1.out _ (hS.out.mono (hb4.out.next (BB.h _)))))
                      | (go_at_call_of 126 (m2); refine callsB (cl2.out _ (hS.out.mono (hb4.out.next (BB.h _))))))))
                    refine wpQuiet_nil ?_
                    intro _ hw'
                    obtain ⟨⟨wq, hbq⟩, hw''⟩ := hw'
                    subst hw''
                    have hB6 := hd (hb4.out.next hbq)
                    go_wp2_with fail
                    go_meet
                    exact ⟨by rw [hg.out], hB6⟩
                  | true =>
                    cases q1 with
                    | true =>
                      have hg := hd (show g3 = false by rw [hg0.out]; rfl)
                      go_wp2_with fail
                      refine wp_region_below hmx (by kernel_rfl) ?_
                      repeat (go_big_quiet_step ((first
                        | (go_at_call_of 125 (m1); refine callsB (ck1.out _ (hS.out.mono (hb4.out.next (BB.h _)))))
                        | (go_at_call_of 125 (m2); refine callsB (ck2.out _ (hS.out.mono (hb4.out.next (BB.h _)))))
                        | (go_at_call_of 126 (m1); refine callsB (cl1.out _ (hS.out.mono (hb4.out.next (BB.h _)))))
                        | (go_at_call_of 126 (m2); refine callsB (cl2.out _ (hS.out.mono (hb4.out.next (BB.h _))))))))
                      refine wpQuiet_nil ?_
                      intro _ hw'
                      obtain ⟨⟨wq, hbq⟩, hw''⟩ := hw'
                      subst hw''
                      have hB6 := hd (hb4.out.next hbq)
                      go_wp2_with fail
                      go_meet
                      exact ⟨by rw [hg.out], hB6⟩
                    | false =>
                      have hg := hd (show g3 = !q2 by rw [hg0.out]; rfl)
                      cases q2 with
                      | true =>
                        go_wp2_with fail
                        refine wp_region_below hmx (by kernel_rfl) ?_
                        repeat (go_big_quiet_step ((first
                          | (go_at_call_of 125 (m1); refine callsB (ck1.out _ (hS.out.mono (hb4.out.next (BB.h _)))))
                          | (go_at_call_of 125 (m2); refine callsB (ck2.out _ (hS.out.mono (hb4.out.next (BB.h _)))))
                          | (go_at_call_of 126 (m1); refine callsB (cl1.out _ (hS.out.mono (hb4.out.next (BB.h _)))))
                          | (go_at_call_of 126 (m2); refine callsB (cl2.out _ (hS.out.mono (hb4.out.next (BB.h _))))))))
                        refine wpQuiet_nil ?_
                        intro _ hw'
                        obtain ⟨⟨wq, hbq⟩, hw''⟩ := hw'
                        subst hw''
                        have hB6 := hd (hb4.out.next hbq)
                        go_wp2_with fail
                        go_meet
                        exact ⟨by rw [hg.out]; rfl, hB6⟩
                      | false =>
                        go_wp2_with fail
                        refine wp_region_below hmx (by kernel_rfl) ?_
                        repeat (go_big_quiet_step ((first
                          | (go_at_call_of 125 (m1); refine callsB (ck1.out _ (hS.out.mono (hb4.out.next (BB.h _)))))
                          | (go_at_call_of 125 (m2); refine callsB (ck2.out _ (hS.out.mono (hb4.out.next (BB.h _)))))
                          | (go_at_call_of 126 (m1); refine callsB (cl1.out _ (hS.out.mono (hb4.out.next (BB.h _)))))
                          | (go_at_call_of 126 (m2); refine callsB (cl2.out _ (hS.out.mono (hb4.out.next (BB.h _))))))))
                        refine wpQuiet_nil ?_
                        intro _ hw'
                        obtain ⟨⟨wq, hbq⟩, hw''⟩ := hw'
                        subst hw''
                        have hB6 := hd (hb4.out.next hbq)
                        go_wp2_with fail
                        go_meet
                        exact ⟨by rw [hg.out]; rfl, hB6⟩
                · have hy2b : (r2 == 1) = false := by simpa using hy2
                  have hg := hd (show g3 = false by rw [hK.out, hy2b]; simp)
                  clear h1 hy hy2
                  go_wp2_with fail
                  refine wp_region_below hmx (by kernel_rfl) ?_
                  repeat (go_big_quiet_step ((first
                    | (go_at_call_of 125 (m1); refine callsB (ck1.out _ (hS.out.mono (hb4.out.next (BB.h _)))))
                    | (go_at_call_of 125 (m2); refine callsB (ck2.out _ (hS.out.mono (hb4.out.next (BB.h _)))))
                    | (go_at_call_of 126 (m1); refine callsB (cl1.out _ (hS.out.mono (hb4.out.next (BB.h _)))))
                    | (go_at_call_of 126 (m2); refine callsB (cl2.out _ (hS.out.mono (hb4.out.next (BB.h _))))))))
                  refine wpQuiet_nil ?_
                  intro _ hw'
                  obtain ⟨⟨wq, hbq⟩, hw''⟩ := hw'
                  subst hw''
                  have hB6 := hd (hb4.out.next hbq)
                  go_wp2_with fail
                  go_meet
                  exact ⟨by rw [hg.out], hB6⟩
              · have hyb : (r1 == 2) = false := by simpa using hy
                have hg := hd (show g3 = false by rw [hK.out, hyb]; simp)
                clear h1 hy
                go_wp2_with fail
                refine wp_region_below hmx (by kernel_rfl) ?_
                repeat (go_big_quiet_step ((first
                  | (go_at_call_of 125 (m1); refine callsB (ck1.out _ (hS.out.mono (hb4.out.next (BB.h _)))))
                  | (go_at_call_of 125 (m2); refine callsB (ck2.out _ (hS.out.mono (hb4.out.next (BB.h _)))))
                  | (go_at_call_of 126 (m1); refine callsB (cl1.out _ (hS.out.mono (hb4.out.next (BB.h _)))))
                  | (go_at_call_of 126 (m2); refine callsB (cl2.out _ (hS.out.mono (hb4.out.next (BB.h _))))))))
                refine wpQuiet_nil ?_
                intro _ hw'
                obtain ⟨⟨wq, hbq⟩, hw''⟩ := hw'
                subst hw''
                have hB6 := hd (hb4.out.next hbq)
                go_wp2_with fail
                go_meet
                exact ⟨by rw [hg.out], hB6⟩
            · have h1b : (x.code == 1) = false := by simpa using h1
              have hg := hd (show g3 = false by rw [hK.out, hx0.out, h1b]; rfl)
              clear h1
              go_wp2_with fail
              refine wp_region_below hmx (by kernel_rfl) ?_
              repeat (go_big_quiet_step ((first
                | (go_at_call_of 125 (m1); refine callsB (ck1.out _ (hS.out.mono (hb4.out.next (BB.h _)))))
                | (go_at_call_of 125 (m2); refine callsB (ck2.out _ (hS.out.mono (hb4.out.next (BB.h _)))))
                | (go_at_call_of 126 (m1); refine callsB (cl1.out _ (hS.out.mono (hb4.out.next (BB.h _)))))
                | (go_at_call_of 126 (m2); refine callsB (cl2.out _ (hS.out.mono (hb4.out.next (BB.h _))))))))
              refine wpQuiet_nil ?_
              intro _ hw'
              obtain ⟨⟨wq, hbq⟩, hw''⟩ := hw'
              subst hw''
              have hB6 := hd (hb4.out.next hbq)
              go_wp2_with fail
              go_meet
              exact ⟨by rw [hg.out], hB6⟩
          case rest =>
            clear hb4 hx4 p0 p2
            obtain ⟨rfl, hb4⟩ := hcut
            obtain ⟨W6, hW6⟩ : ∃ z : World, z = wc := ⟨_, rfl⟩
            subst hW6
            cases g3 with
            | true =>
              have kB := hd (hB3.out rfl)
              have hn1 : i + 2 < l.length := (hU3.out rfl).2.2.1.1
              have cc := hd (without_i l m2 1 _ W6 (by omega) (by have := code_not_end hok hn1 (by have := (hU3.out rfl).2.2.1.2; omega); omega) (by omega) hto.out (hS.out.mono hb4.out))
              rw [show m2 = i + 2 by omega] at cc
              rw [show (((i + 2 : Nat)) : Int) = (m2 : Int) by omega] at cc
              clear hB3 hB4 hU3 hK
              go_wp2_with fail
              refine cc.out.mono ?_
              rintro e w5 ⟨v5, rfl, ho5, hb5⟩
              have hB5 := hd (hb4.out.next hb5)
              replace ho5 := hd (ho5.weaken hb4.out.size)
              clear hb5
              go_wp2_with fail
              go_ret2
              exact ⟨_, by rw [kB.out]; rfl, by rw [kB.out]; exact ho5.out, hB5.out⟩
            | false =>
              have kB := hd (hB4.out rfl)
              clear hB3 hB4 hU3 hK
              go_wp2_with fail
              go_ret2
              exact ⟨_, by rw [kB.out]; rfl, by rw [kB.out]; exact Own.nil, hb4.out⟩
end Go.Proofs.Ytbjilpemckoioaa
