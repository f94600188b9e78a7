/- l8Better of the reference. -/
import Derived.Test.YtbjilpemckoioaaPeepS
import Derived.Deep.CutRange
import Derived.Test.YtbjilpemckoioaaQuietB
import Derived.Laws.StructEq
namespace Go.Proofs.Ytbjilpemckoioaa
open Go.RowKit
set_option linter.unusedVariables false
set_option maxRecDepth 100000
def eqI (y x : DInstr) : Bool := y.code == x.code && (y.kind == x.kind && (y.no == x.no && (y.num == x.num && (y.text.toList == x.text.toList && y.to == x.to))))
theorem eqI_run (x y : DInstr) (w : World) : (binOp .eql 119 (.agg #[.int .i64 y.code, .int .i64 y.kind, .int .i64 y.no, .int .i64 y.num, .string y.text, .int .i64 y.to]) (.agg #[.int .i64 x.code, .int .i64 x.kind, .int .i64 x.no, .int .i64 x.num, .string x.text, .int .i64 x.to])).run Try.prog w = .ok (.bool (eqI y x)) w := by
  have hS : Try.prog.underlying 119 = some (.struct (Try.prog.fieldsOf 119)) := by kernel_rfl
  have hp : Try.prog.stoodInHeld 119 = false := by kernel_rfl
  rw [run_eql_struct, show (10000 : Nat) = 9999 + 1 from rfl, run_equalIn_agg w 9999 119 _ _ hS hp]
  simp only [Program.fieldsOf, Try.underlying119]
  go_simp
  unfold eqI
  by_cases h1 : y.code = x.code <;> by_cases h2 : y.kind = x.kind <;> by_cases h3 : y.no = x.no <;> by_cases h4 : y.num = x.num <;> by_cases h5 : y.text.toList = x.text.toList <;> by_cases h6 : y.to = x.to <;> simp [h1, h2, h3, h4, h5, h6]
theorem eqI_seek {l : List DInstr} (h : okPr l) {i j : Nat} (hi : i < l.length) (hj : j < l.length) (hc : l[i].code = 1) : eqI l[j] l[i] = (l[j].code == 1 && l[j].no == l[i].no) := by
  have p := h i hi
  have q := h j hj
  unfold instrP at p q
  obtain ⟨_, p⟩ := p
  obtain ⟨_, q⟩ := q
  unfold eqI
  rw [hc]
  by_cases h1 : l[j].code = 1
  · rcases p with p | p | p | p
    · rcases q with q | q | q | q
      · have e1 : l[i].text.toList = [] := by have := p.2.2.2.2.2.1; rw [emptyS] at this; simpa using this
        have e2 : l[j].text.toList = [] := by have := q.2.2.2.2.2.1; rw [emptyS] at this; simpa using this
        rw [h1, e1, e2]
        simp [p.2.2.2.1, p.2.2.2.2.1, p.2.2.2.2.2.2, q.2.2.2.1, q.2.2.2.2.1, q.2.2.2.2.2.2]
      all_goals omega
    all_goals omega
  · have h2 : (l[j].code == 1) = false := by simpa using h1
    rw [h2]; rfl
set_option maxHeartbeats 12000000 in
theorem better8_s (l : List DInstr) (i : Nat) (v : Value) (w : World) (hl : l.length ≤ 60) (hi : i < l.length) (hok : okPr l) (h : Sl w v 6 (l.map DInstr.enc)) (B : Option (List DInstr)) (hB : betterR l i = B) :
    Calls Try.prog 69 #[v, .int .i64 i] w (OwnBPost 119 6 ((B.getD []).map DInstr.enc) B.isSome w) := by
  have hS := hd h
  obtain ⟨a0, k0, rfl, hrr⟩ := h
  obtain ⟨b1, o1, rfl, C1⟩ := rows_at hrr (k := i) (by rw [List.length_map]; omega)
  have HC := hd C1
  simp only [List.length_map] at hS ⊢
  clear hrr
  have hiI : (i : Int) < (l.length : Int) := by omega
  obtain ⟨f0, f1, f2, f3, f4, f5⟩ := Cells.rowInstr l i hi C1
  have hw1 : IntKind.i64.wrap ((i : Int) + 1) = (i : Int) + 1 := IntWalk.i64_in _ (by omega)
  have hw2 : IntKind.i64.wrap ((i : Int) + 2) = (i : Int) + 2 := IntWalk.i64_in _ (by omega)
  obtain ⟨q1, hq1⟩ : ∃ q, ledB l (i + 1) = q := ⟨_, rfl⟩
  obtain ⟨q2, hq2⟩ : ∃ q, ledB l (i + 2) = q := ⟨_, rfl⟩
  have cl1 := hd (fun w' (hS' : Sl w' (.slice (some ⟨b1, o1, none⟩) l.length k0) 6 (l.map DInstr.enc)) => (show Calls Try.prog 120 #[(.slice (some ⟨b1, o1, none⟩) l.length k0), .int .i64 ((i : Int) + 1)] w' (BoolPost q1 w') from led8_s l (i + 1) _ w' (by omega) hS' q1 hq1))
  have cl2 := hd (fun w' (hS' : Sl w' (.slice (some ⟨b1, o1, none⟩) l.length k0) 6 (l.map DInstr.enc)) => (show Calls Try.prog 120 #[(.slice (some ⟨b1, o1, none⟩) l.length k0), .int .i64 ((i : Int) + 2)] w' (BoolPost q2 w') from led8_s l (i + 2) _ w' (by omega) hS' q2 hq2))
  have hto := hd (show ∀ x ∈ l, 0 ≤ x.to ∧ x.to ≤ 1000 from fun x hx => by
    obtain ⟨j, hj, rfl⟩ := List.getElem_of_mem hx
    have := hok j hj
    unfold instrP at this
    omega)
  obtain ⟨g1, hg1⟩ : ∃ g, isFlip l i = g := ⟨_, rfl⟩
  obtain ⟨g2, hg2⟩ : ∃ g, isJump l i = g := ⟨_, rfl⟩
  obtain ⟨g3, hg3⟩ : ∃ g, isSeek l i = g := ⟨_, rfl⟩
  have hBR := hd hB
  have hF := hd (show g1 = ((at0 l i).code == 4 && ((at0 l (i + 1)).code == 4 && !q1)) by rw [← hg1, isFlip, hq1])
  have hJ := hd hg2
  have hK := hd (show g3 = ((at0 l i).code == 1 && ((at0 l (i + 1)).code == 2 && ((at0 l (i + 2)).code == 1 && ((at0 l (i + 2)).no == (at0 l i).no && (!q1 && !q2))))) by rw [← hg3, isSeek, hq1, hq2])
  have hB1 := hd (show g1 = true → B = some (cutL l i 2) from fun e => by rw [← hB, betterR, hg1, if_pos e])
  have hB2 := hd (show g1 = false → g2 = true → B = some (l.set i (DInstr.mk (at0 l i).code (at0 l i).kind (at0 l i).no (at0 l i).num (at0 l i).text (at0 l (at0 l i).to.toNat).to)) from fun e e2 => by rw [← hB, betterR, hg1, e, if_neg (by simp), hg2, if_pos e2])
  have hB3 := hd (show g1 = false → g2 = false → g3 = true → B = some (cutL l (i + 2) 1) from fun e e2 e3 => by rw [← hB, betterR, hg1, e, if_neg (by simp), hg2, e2, if_neg (by simp), hg3, if_pos e3])
  have hB4 := hd (show g1 = false → g2 = false → g3 = false → B = none from fun e e2 e3 => by rw [← hB, betterR, hg1, e, if_neg (by simp), hg2, e2, if_neg (by simp), hg3, e3, if_neg (by simp)])
  have hU1 := hd (fun e => flip_use (l := l) (i := i) (hg1.trans e))
  have hU3 := hd (fun e => seek_use (l := l) (i := i) (hg3.trans e))
  have hx0 := hd (at0_lt hi)
  clear hB hBR
  obtain ⟨x, hx⟩ : ∃ x, l[i] = x := ⟨_, rfl⟩
  rw [hx] at f0 f1 f2 f3 f4 f5 hx0
  have HX := hd hx
  clear hx C1 hq1 hq2 hg1 hg2 hg3
  have hb4 := hd (below_a1 w (a := .cells #[.int .i64 x.code, .int .i64 x.kind, .int .i64 x.no, .int .i64 x.num, .string x.text, .int .i64 x.to] 119))
  have hx4 := hd (show BoxN (w.alloc (.cells #[.int .i64 x.code, .int .i64 x.kind, .int .i64 x.no, .int .i64 x.num, .string x.text, .int .i64 x.to] 119)) w.heap.size [.int .i64 x.code, .int .i64 x.kind, .int .i64 x.no, .int .i64 x.num, .string x.text, .int .i64 x.to] from BoxN.new w _ _)
  go_enter Try.func69, Try.ntmps69
  go_upto_region 3 with (fail)
  generalize w.alloc (.cells #[.int .i64 x.code, .int .i64 x.kind, .int .i64 x.no, .int .i64 x.num, .string x.text, .int .i64 x.to] 119) = w4 at *
  clear f0 f1 f2 f3 f4 f5
  have p0 := hx4.out.1 0 _ rfl
  go_cut [15] from 16 to 40 (fun t wy => t = .bool g1 ∧ Hd (Below w.heap.size w wy) ∧ Hd (BoxN wy w.heap.size [.int .i64 x.code, .int .i64 x.kind, .int .i64 x.no, .int .i64 x.num, .string x.text, .int .i64 x.to]))
  case first =>
    by_cases h4 : x.code = 4
    · have h4b : (x.code == 4) = true := by simpa using h4
      by_cases hn : i + 1 < l.length
      · have hnI : (i : Int) + 1 < (l.length : Int) := by omega
        have c0 := keepCell hb4.out (Cells.rowInstr l (i + 1) hn HC.out).1
        have hy0 := hd (at0_lt hn)
        generalize l[i + 1] = y at *
        by_cases hy : y.code = 4
        · have hyb : (y.code == 4) = true := by simpa using hy
          have hg := hd (show g1 = !q1 by rw [hF.out, hx0.out, hy0.out, h4, hy]; simp)
          clear h4 hy
          go_wp2_with fail
          refine (cl1.out _ (hS.out.mono hb4.out)).mono ?_
          rintro e w5 ⟨rfl, hb5⟩
          have hB5 := hd (hb4.out.next hb5)
          have hX5 := hd (hx4.out.below hb5)
          clear hb5
          cases q1
          all_goals
            go_wp2_with fail
            go_meet
            exact ⟨by rw [hg.out]; rfl, hB5, hX5⟩
        · have hyb : (y.code == 4) = false := by simpa using hy
          have hg := hd (show g1 = false by rw [hF.out, hx0.out, hy0.out]; simp [hy])
          clear h4 hy
          go_wp2_with fail
          go_meet
          exact ⟨by rw [hg.out], hb4, hx4⟩
      · have hnI : ¬ (i : Int) + 1 < (l.length : Int) := by omega
        have hg := hd (show g1 = false by rw [hF.out, at0_ge (i := i + 1) (by omega)]; simp; intro _ h; cases h)
        clear h4
        go_wp2_with fail
        go_meet
        exact ⟨by rw [hg.out], hb4, hx4⟩
    · have h4b : (x.code == 4) = false := by simpa using h4
      have hg := hd (show g1 = false by rw [hF.out, hx0.out]; simp [h4])
      clear h4
      go_wp2_with fail
      go_meet
      exact ⟨by rw [hg.out], hb4, hx4⟩
  case rest =>
    clear hb4 hx4 p0
    obtain ⟨rfl, hb4, hx4⟩ := hcut
    obtain ⟨W4, hW4⟩ : ∃ z : World, z = wc := ⟨_, rfl⟩
    subst hW4
    cases g1 with
    | true =>
      have kB := hd (hB1.out rfl)
      have hn1 : i + 1 < l.length := (hU1.out rfl).2.1.1
      have cc := hd (cut8_s l i 2 _ W4 (by omega) (by omega) (by omega) hto.out (cut2_led (hU1.out rfl).2.2) (hS.out.mono hb4.out))
      clear hB1 hB2 hB3 hB4 hU1 hU3 hF hJ hK
      go_wp2_with fail
      refine cc.out.mono ?_
      rintro e w5 ⟨v5, rfl, ho5, hb5⟩
      have hB5 := hd (hb4.out.next hb5)
      replace ho5 := hd (ho5.weaken hb4.out.size)
      clear hb5
      go_wp2_with fail
      go_ret2
      exact ⟨_, by rw [kB.out]; rfl, by rw [kB.out]; exact ho5.out, hB5.out⟩
    | false =>
      replace hB2 := hd (hB2.out rfl)
      replace hB3 := hd (hB3.out rfl)
      replace hB4 := hd (hB4.out rfl)
      clear hB1 hU1 hF
      go_upto_region 5 with (fail)
      have p0 := hx4.out.1 0 _ rfl
      have p3 := hx4.out.1 3 _ rfl
      have p5 := hx4.out.1 5 _ rfl
      go_cut [44] from 45 to 67 (fun t wy => t = .bool g2 ∧ Hd (Below w.heap.size w wy) ∧ Hd (BoxN wy w.heap.size [.int .i64 x.code, .int .i64 x.kind, .int .i64 x.no, .int .i64 x.num, .string x.text, .int .i64 x.to]))
      case first =>
        by_cases h3 : x.code = 3
        · have h3b : (x.code == 3) = true := by simpa using h3
          have hpi := hok i hi
          rw [HX.out] at hpi
          unfold instrP at hpi
          have ht0 : 0 ≤ x.to := by omega
          have ht1 : x.to < (l.length : Int) := by omega
          obtain ⟨j, hj⟩ : ∃ j, x.to.toNat = j := ⟨_, rfl⟩
          have hjl : j < l.length := by omega
          have hrow := Cells.rowInstr l j hjl HC.out
          have c0 := keepCell hb4.out hrow.1
          have c3 := keepCell hb4.out hrow.2.2.2.1
          have hgj := hd (show g2 = ((l[j]'hjl).code == 3 && (l[j]'hjl).num == x.num) by rw [← hJ.out, isJump, hx0.out, hj, at0_lt hjl, h3]; rfl)
          clear hpi hrow h3
          generalize l[j] = y at *
          by_cases hy : y.code = 3
          · have hyb : (y.code == 3) = true := by simpa using hy
            obtain ⟨qn, hqn⟩ : ∃ q, (y.num == x.num) = q := ⟨_, rfl⟩
            have hg := hd (show g2 = qn by rw [hgj.out, hyb, hqn]; rfl)
            clear hy
            cases qn
            all_goals
              go_wp2_with fail
              go_quiet (fail)
              have hB5 := hd (show Below w.heap.size w (W4.drewN nq) from below_drewN hb4.out nq)
              have hX5 := hd (hx4.out.below (below_drewN (Below.refl _ W4) nq))
              go_wp2_with fail
              go_meet
              exact ⟨by rw [hg.out], hB5, hX5⟩
          · have hyb : (y.code == 3) = false := by simpa using hy
            have hg := hd (show g2 = false by rw [hgj.out, hyb]; rfl)
            clear hy
            go_wp2_with fail
            go_quiet (fail)
            have hB5 := hd (show Below w.heap.size w (W4.drewN nq) from below_drewN hb4.out nq)
            have hX5 := hd (hx4.out.below (below_drewN (Below.refl _ W4) nq))
            go_wp2_with fail
            go_meet
            exact ⟨by rw [hg.out], hB5, hX5⟩
        · have h3b : (x.code == 3) = false := by simpa using h3
          have hg := hd (show g2 = false by rw [← hJ.out, isJump, hx0.out, h3b]; rfl)
          clear h3
          go_wp2_with fail
          go_quiet (fail)
          have hB5 := hd (show Below w.heap.size w (W4.drewN nq) from below_drewN hb4.out nq)
          have hX5 := hd (hx4.out.below (below_drewN (Below.refl _ W4) nq))
          go_wp2_with fail
          go_meet
          exact ⟨by rw [hg.out], hB5, hX5⟩
      case rest =>
        clear hb4 hx4 p0 p3 p5
        obtain ⟨rfl, hb4, hx4⟩ := hcut
        obtain ⟨W5, hW5⟩ : ∃ z : World, z = wc := ⟨_, rfl⟩
        subst hW5
        cases g2 with
        | true =>
          have kB := hd (hB2.out rfl)
          obtain ⟨_, hj1, hj2⟩ : ∃ (h0 : i < l.length) (h1 : l[i].to.toNat < l.length), 0 ≤ l[i].to ∧ l[i].to < (l.length : Int) := by
            obtain ⟨h0, h1, h2, _, _, h3⟩ := jump_use hok hJ.out
            have := hok i h0
            unfold instrP at this
            exact ⟨h0, h1, by omega, by omega⟩
          rw [HX.out] at hj1 hj2
          obtain ⟨ht0, ht1⟩ := hj2
          obtain ⟨j, hj⟩ : ∃ j, x.to.toNat = j := ⟨_, rfl⟩
          rw [hj] at hj1
          have hrow := Cells.rowInstr l j hj1 HC.out
          have c5 := hd hrow.2.2.2.2.2
          have kB2 := hd (show B = some (l.set i ⟨x.code, x.kind, x.no, x.num, x.text, (l[j]'hj1).to⟩) by rw [kB.out, hx0.out, hj, at0_lt hj1])
          clear kB hrow hB2 hB3 hB4 hU3 hJ hK
          obtain ⟨z, hz⟩ : ∃ z, (l[j]'hj1).to = z := ⟨_, rfl⟩
          rw [hz] at c5 kB2
          obtain ⟨i0, hi0, hz0, hz1, hz2⟩ := info_parts infoInstr
          have Hi := hd hi0; have Hz0 := hd hz0; have Hz1 := hd hz1; have Hz2 := hd hz2
          clear hi0 hz0 hz1 hz2 hz
          have hba := hd (below_a1 W5 (a := .cells #[] 119))
          have hC5 := hd (((HC.out.mono hb4.out).mono hba.out).flat (DInstr.enc_len l))
          have c5w := keepCell hb4.out c5.out
          go_upto_region 7 with (at_builtin; refine wpList_appOwn rfl (.tmp 68) (.tmp 69) 50 rfl W5.heap.size 119 i0 _ 6 56 Try.underlying50 Hi.out Hz0.out Hz1.out Hz2.out rfl (by decide) _ [] (l.map DInstr.enc) rfl (own_made W5 119 6) ⟨b1, o1, none⟩ l.length k0 (by rw [List.length_map]) rfl (DInstr.enc_len l) hC5.out (DInstr.enc_one l) (by simp; omega) (by decide) (by simp) ?_; intro v6 w6 ho6 hga hva; have hb6 := hd (hba.out.grown hga (by simp) (fun q hq => by cases hq; exact Nat.le_refl _)); rw [List.nil_append] at ho6; replace ho6 := hd ho6; clear hga hva)
          obtain ⟨g6, c6, hs6, hg61, hg62⟩ := ho6.out.addr (by intro e; have := congrArg List.length e; simp at this; rw [this] at hi; simp at hi)
          rw [hs6] at ho6
          rw [hs6]
          rw [List.length_map] at ho6 ⊢
          have hB6 := hd (hb4.out.next hb6.out)
          have hX6 := hd (hx4.out.below hb6.out)
          have c56 := keepCell hb6.out c5w
          have p5 := hX6.out.1 5 _ rfl
          have hri : (l.map DInstr.enc)[i]? = some x.enc := by rw [List.getElem?_map, List.getElem?_eq_getElem hi, HX.out]; rfl
          have q5 := (ho6.out.cell (j := 5) hri rfl).1
          have r5 := (ho6.out.cell (j := 5) hri rfl).2
          have hst := ho6.out.store (j := 5) hri (by decide) (.int .i64 z)
          have hfin := hd (show Own (w6.setCell ⟨g6, i * 6 + 5, none⟩ (.int .i64 z)) w.heap.size 119 6 (.slice (some ⟨g6, 0, none⟩) l.length c6) (((B.getD [])).map DInstr.enc) from by
            rw [kB2.out, Option.getD_some, List.map_set]
            exact hst.1.weaken hb4.out.size)
          have hbf := hd (show Below w.heap.size w (w6.setCell ⟨g6, i * 6 + 5, none⟩ (.int .i64 z)) from hB6.out.grown hst.2 hB6.out.size (fun q hq => by cases hq; have := hb4.out.size; omega))
          have hsome := hd (show B.isSome = true by rw [kB2.out]; rfl)
          clear hst hri ho6 hb6 hB6 hC5 hba hs6 c5 c5w hx4
          go_wp2_with fail
          go_ret2
          exact ⟨_, by rw [hsome.out]; rfl, hfin.out, hbf.out⟩
        | false =>
          replace hB3 := hd (hB3.out rfl)
          replace hB4 := hd (hB4.out rfl)
          clear hB2 hJ
          have hgd : Try.prog.eqGuardType Try.prog.depth 119 = false := by kernel_rfl
          go_upto_region 9 with (fail)
          have p0 := hx4.out.1 0 _ rfl
          go_cut [82] from 83 to 123 (fun t wy => t = .bool g3 ∧ Hd (Below w.heap.size w wy))
          case first =>
            have fin := hd (fun nq => (show Below w.heap.size w (W5.drewN nq) from below_drewN hb4.out nq))
            by_cases h1 : x.code = 1
            · have h1b : (x.code == 1) = true := by simpa using h1
              by_cases hn : i + 2 < l.length
              · have hnI : (i : Int) + 2 < (l.length : Int) := by omega
                have hnI1 : (i : Int) + 1 < (l.length : Int) := by omega
                have c0 := keepCell hb4.out (Cells.rowInstr l (i + 1) (by omega) HC.out).1
                have hy0 := hd (at0_lt (l := l) (i := i + 1) (by omega))
                obtain ⟨d0, d1, d2, d3, d4, d5⟩ := Cells.rowInstr l (i + 2) hn (HC.out.mono hb4.out)
                have hs0 := hd (at0_lt hn)
                have hei := hd (eqI_seek hok hi hn (by rw [HX.out]; exact h1))
                rw [HX.out] at hei
                have herun := fun w' => eqI_run x (l[i + 2]) w'
                generalize l[i + 1]'(by omega) = y at *
                generalize l[i + 2] = s at *
                by_cases hy : y.code = 2
                · have hyb : (y.code == 2) = true := by simpa using hy
                  have hg := hd (show g3 = (eqI s x && (!q1 && !q2)) by rw [hK.out, hx0.out, hy0.out, hs0.out, hei.out, h1b, hyb]; simp [Bool.and_assoc])
                  have p1 := hx4.out.1 1 _ rfl
                  have p2 := hx4.out.1 2 _ rfl
                  have p3 := hx4.out.1 3 _ rfl
                  have p4 := hx4.out.1 4 _ rfl
                  have p5 := hx4.out.1 5 _ rfl
                  clear h1 hy
                  generalize eqI s x = qe at *
                  cases qe with
                  | false =>
                    go_wp2_with fail
                    go_quiet (fail)
                    have hf := hd (fin.out nq)
                    go_wp2_with fail
                    go_meet
                    exact ⟨by rw [hg.out]; rfl, hf⟩
                  | true =>
                    clear fin hei hs0 hy0
                    obtain ⟨m1, u1, u2⟩ : ∃ m, m ≤ i + 1 ∧ i + 1 ≤ m := ⟨i + 1, Nat.le_refl _, Nat.le_refl _⟩
                    obtain ⟨m2, u3, u4⟩ : ∃ m, m ≤ i + 2 ∧ i + 2 ≤ m := ⟨i + 2, Nat.le_refl _, Nat.le_refl _⟩
                    rw [show (i : Int) + 1 = (m1 : Int) by omega] at cl1
                    rw [show (i : Int) + 2 = (m2 : Int) by omega] at cl2
                    replace hw1 : IntKind.i64.wrap ((i : Int) + 1) = (m1 : Int) := IntWalk.i64_in _ (by omega) |>.trans (by omega)
                    replace hw2 : IntKind.i64.wrap ((i : Int) + 2) = (m2 : Int) := IntWalk.i64_in _ (by omega) |>.trans (by omega)
                    rw [show i + 1 = m1 by omega] at c0
                    rw [show i + 2 = m2 by omega] at d0 d1 d2 d3 d4 d5
                    have n1 : m1 < l.length := by omega
                    have n2 : m2 < l.length := by omega
                    have n1I : (m1 : Int) < (l.length : Int) := by omega
                    have n2I : (m2 : Int) < (l.length : Int) := by omega
                    clear hnI hnI1 hn
                    have hmx : Try.prog.follows .mixedOrders = true := by kernel_rfl
                    replace c0 := cellB c0
                    replace d0 := cellB d0
                    replace d1 := cellB d1
                    replace d2 := cellB d2
                    replace d3 := cellB d3
                    replace d4 := cellB d4
                    replace d5 := cellB d5
                    replace p0 := cellB p0
                    replace p1 := cellB p1
                    replace p2 := cellB p2
                    replace p3 := cellB p3
                    replace p4 := cellB p4
                    replace p5 := cellB p5
                    cases q2 with
                    | true =>
                      go_wp2_with fail
                      refine wp_region_below hmx (by kernel_rfl) ?_
                      repeat (go_big_quiet_step ((go_at_call 120; refine callsB (cl2.out _ (hS.out.mono (hb4.out.next (BB.h _)))))))
                      refine wpQuiet_nil ?_
                      intro _ hw'
                      obtain ⟨⟨wq, hbq⟩, hw''⟩ := hw'
                      subst hw''
                      have hB6 := hd (hb4.out.next hbq)
                      go_wp2_with fail
                      go_meet
                      exact ⟨by rw [hg.out]; simp, hB6⟩
                    | false =>
                      go_wp2_with fail
                      refine wp_region_below hmx (by kernel_rfl) ?_
                      repeat (go_big_quiet_step ((first
                        | (go_at_call_of 120 (m2); refine callsB (cl2.out _ (hS.out.mono (hb4.out.next (BB.h _)))))
                        | (go_at_call_of 120 (m1); refine callsB (cl1.out _ (hS.out.mono (hb4.out.next (BB.h _))))))))
                      refine wpQuiet_nil ?_
                      intro _ hw'
                      obtain ⟨⟨wq, hbq⟩, hw''⟩ := hw'
                      subst hw''
                      have hB7 := hd (hb4.out.next hbq)
                      cases q1
                      all_goals
                        go_wp2_with fail
                        go_meet
                        exact ⟨by rw [hg.out]; rfl, hB7⟩
                · have hyb : (y.code == 2) = false := by simpa using hy
                  have hg := hd (show g3 = false by rw [hK.out, hy0.out, hyb]; simp)
                  clear h1 hy herun
                  go_wp2_with fail
                  go_quiet (fail)
                  have hf := hd (fin.out nq)
                  go_wp2_with fail
                  go_meet
                  exact ⟨by rw [hg.out], hf⟩
              · have hnI : decide ((i : Int) + 2 < (l.length : Int)) = false := decide_eq_false (by omega)
                have hg := hd (show g3 = false by rw [hK.out, at0_ge (i := i + 2) (by omega)]; simp; intro _ _ h; cases h)
                clear h1
                go_wp2_with fail
                go_quiet (fail)
                have hf := hd (fin.out nq)
                go_wp2_with fail
                go_meet
                exact ⟨by rw [hg.out], hf⟩
            · have h1b : (x.code == 1) = false := by simpa using h1
              have hg := hd (show g3 = false by rw [hK.out, hx0.out, h1b]; rfl)
              clear h1
              go_wp2_with fail
              go_quiet (fail)
              have hf := hd (fin.out nq)
              go_wp2_with fail
              go_meet
              exact ⟨by rw [hg.out], hf⟩
          case rest =>
            clear hb4 hx4 p0
            obtain ⟨rfl, hb4⟩ := hcut
            obtain ⟨W6, hW6⟩ : ∃ z : World, z = wc := ⟨_, rfl⟩
            subst hW6
            cases g3 with
            | true =>
              have kB := hd (hB3.out rfl)
              have hn1 : i + 2 < l.length := (hU3.out rfl).2.2.1.1
              have cc := hd (show Calls Try.prog 121 #[.slice (some ⟨b1, o1, none⟩) l.length k0, .int .i64 ((i : Int) + 2), .int .i64 1] W6 (OwnVPost 119 6 ((cutL l (i + 2) 1).map DInstr.enc) W6) from cut8_s l (i + 2) 1 _ W6 (by omega) (by omega) (by omega) hto.out cut1_led (hS.out.mono hb4.out))
              clear hB3 hB4 hU3 hK
              go_wp2_with fail
              refine cc.out.mono ?_
              rintro e w5 ⟨v5, rfl, ho5, hb5⟩
              have hB5 := hd (hb4.out.next hb5)
              replace ho5 := hd (ho5.weaken hb4.out.size)
              clear hb5
              go_wp2_with fail
              go_ret2
              exact ⟨_, by rw [kB.out]; rfl, by rw [kB.out]; exact ho5.out, hB5.out⟩
            | false =>
              have kB := hd (hB4.out rfl)
              clear hB3 hB4 hU3 hK
              go_wp2_with fail
              go_ret2
              exact ⟨_, by rw [kB.out]; rfl, by rw [kB.out]; exact Own.nil, hb4.out⟩
end Go.Proofs.Ytbjilpemckoioaa
