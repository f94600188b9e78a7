/- GoodFilter of the reference. -/
import Derived.Test.YtbjilpemckoioaaFilter
namespace Go.Proofs.Ytbjilpemckoioaa
open Go.RowKit
set_option linter.unusedVariables false
set_option maxRecDepth 100000

set_option maxHeartbeats 3200000 in
theorem GoodFilter_s (l : List DWant) (v : Value) (w : World) (hl : l.length ≤ 1000000000000) (h : Sl w v 6 (l.map DWant.enc)) (b : Bool) (hb : goodFilter l = b) :
    Calls Try.prog 78 #[.agg #[v]] w (BoolPost b w) := by
  have hbb := hd hb
  clear hb
  by_cases hn : 1 ≤ l.length ∧ l.length ≤ 20
  · rcases h.open with ⟨a1, c1, rfl, hr⟩ | ⟨b1, o1, c1, rfl, hr, C1⟩
    · exfalso; have : l = [] := by simpa using hr
      subst this; simp at hn
    clear h hr
    obtain ⟨hn1, hn2⟩ := hn
    simp only [List.length_map]
    obtain ⟨i0, hi, hz0, hz1, hz2⟩ := info_parts infoInt
    have Hi := hd hi; have Hz0 := hd hz0; have Hz1 := hd hz1
    have hby : i0.bytes * l.length ≤ 281474976710656 := by rw [hz2]; omega
    clear hi hz0 hz1 hz2
    obtain ⟨W, hW⟩ : ∃ W, W = (w.alloc (.cells #[.slice (some ⟨b1, o1, none⟩) l.length c1] 68)) := ⟨_, rfl⟩
    have hW0 := hd (show Below w.heap.size w W by rw [hW]; exact below_a1 _)
    have hq1 := hd (show W.cell? ⟨w.heap.size, 0, none⟩ = some (.slice (some ⟨b1, o1, none⟩) l.length c1) by rw [hW]; go_simp)
    have c0 := hd (fun w => within_s (l.length : Int) 1 20 w true (by simp; omega))
    replace hW := hd hW
    have htok : True := trivial
    go_enter Try.func78, Try.ntmps78
    go_upto_region 4 with (go_at_call 118; refine (c0.out _).mono ?_; rintro e w' ⟨rfl, rfl⟩)
    rw [← hW.out]
    have q1 := hq1.out
    go_wp2_with (at_make; refine wpList_make_full _ rfl (.tmp 15) (.tmp 15) 63 rfl W.heap.size 3 i0 _ 1 Try.underlying63 Hi.out Hz0.out Hz1.out .i64 .i64 _ _ l.length rfl rfl rfl rfl hby (by unfold maxLen; omega) (Nat.le_refl _) ?_; intro w1 ho hg; replace ho := hd ho; replace hg := hd hg; have q2 := (grownBy_below hg.out).cell (World.block_lt_of_cell? W _ q1); rw [q1] at q2)
    have hq2 := hd q2
    have hlt2 := hd (World.block_lt_of_cell? W _ q1)
    clear q1 q2
    go_loopw [20] (fun i wr => ∃ k : Nat, k ≤ l.length ∧ i = .int .i64 k ∧ Hd (fidx_from wantBad l.zipIdx k) ∧ Hd (wr.ownsRow W.heap.size 3 1 (.slice (some ⟨W.heap.size, 0, none⟩) l.length l.length) l.length ((usesUpto l k).map iV)) ∧ Hd (bdd (2 * k) (usesUpto l k)) ∧ Hd (Below W.heap.size W wr)) (fun i _ => l.length - (intOf i).toNat)
    case atStart =>
      refine ⟨0, Nat.zero_le _, rfl, fidx_zero _ _, ?_, bdd_zero _, grownBy_below hg.out⟩
      have h0 := ho.out
      have e : (madeCells (Value.cells (.int .i64 0)) (l.length * 1)).toList = (usesUpto l 0).map iV := by
        apply List.ext_getElem?
        intro i
        by_cases hi : i < l.length
        · simp [madeCells, usesUpto, hi, iV, Value.cells, Nat.mod_one]
        · simp [madeCells, usesUpto, hi]
      rw [e] at h0
      exact h0
    case round =>
      obtain ⟨k, hk, rfl, hfx, hown, hbd, hbl⟩ := hrel
      have hbw := hd (hW0.out.trans (hbl.out.mono hW0.out.size))
      obtain ⟨wo, rfl⟩ : ∃ wo : World, wo = wr := ⟨_, rfl⟩
      have hlen := usesUpto_len l k
      by_cases hlt : k < l.length
      · have hltI : (k : Int) < (l.length : Int) := by omega
        obtain ⟨f0, f1, f2, f3, f4, f5⟩ := Cells.rowWant l k hlt (C1.mono hbw.out)
        generalize hx : l[k] = x at *
        replace hx := hd hx
        obtain ⟨q, hq⟩ : ∃ q, decide (wantSP x.kind x.no x.num x.text x.a x.b (k : Int)) = q := ⟨_, rfl⟩
        have c1 := hd (fun w => want_s x.kind x.no x.num x.text x.a x.b (k : Int) w (by omega) (by omega))
        rw [hq] at c1
        replace hq := hd hq
        have hsame := hd (want_same x.kind x.no x.num x.text x.a x.b (k : Int))
        go_upto_region 8 with (fail)
        have hbx := hd (hbw.out.next (below_a1 wo (a := (.cells #[.int .i64 x.kind, .int .i64 x.no, .int .i64 x.num, .string x.text, .int .i64 x.a, .int .i64 x.b] 125))))
        have hbl2 := hd (hbl.out.next (below_a1 wo (a := (.cells #[.int .i64 x.kind, .int .i64 x.no, .int .i64 x.num, .string x.text, .int .i64 x.a, .int .i64 x.b] 125))))
        have ho2 := hd (ownsRow_below hown.out (below_a1 wo (a := (.cells #[.int .i64 x.kind, .int .i64 x.no, .int .i64 x.num, .string x.text, .int .i64 x.a, .int .i64 x.b] 125))))
        have g0 : (World.alloc wo (.cells #[.int .i64 x.kind, .int .i64 x.no, .int .i64 x.num, .string x.text, .int .i64 x.a, .int .i64 x.b] 125)).cell? ⟨wo.heap.size, 0, none⟩ = some (.int .i64 x.kind) := by go_simp
        have g1 : (World.alloc wo (.cells #[.int .i64 x.kind, .int .i64 x.no, .int .i64 x.num, .string x.text, .int .i64 x.a, .int .i64 x.b] 125)).cell? ⟨wo.heap.size, 1, none⟩ = some (.int .i64 x.no) := by go_simp
        have g2 : (World.alloc wo (.cells #[.int .i64 x.kind, .int .i64 x.no, .int .i64 x.num, .string x.text, .int .i64 x.a, .int .i64 x.b] 125)).cell? ⟨wo.heap.size, 2, none⟩ = some (.int .i64 x.num) := by go_simp
        have g3 : (World.alloc wo (.cells #[.int .i64 x.kind, .int .i64 x.no, .int .i64 x.num, .string x.text, .int .i64 x.a, .int .i64 x.b] 125)).cell? ⟨wo.heap.size, 3, none⟩ = some (.string x.text) := by go_simp
        have g4 : (World.alloc wo (.cells #[.int .i64 x.kind, .int .i64 x.no, .int .i64 x.num, .string x.text, .int .i64 x.a, .int .i64 x.b] 125)).cell? ⟨wo.heap.size, 4, none⟩ = some (.int .i64 x.a) := by go_simp
        have g5 : (World.alloc wo (.cells #[.int .i64 x.kind, .int .i64 x.no, .int .i64 x.num, .string x.text, .int .i64 x.a, .int .i64 x.b] 125)).cell? ⟨wo.heap.size, 5, none⟩ = some (.int .i64 x.b) := by go_simp
        generalize World.alloc wo (.cells #[.int .i64 x.kind, .int .i64 x.no, .int .i64 x.num, .string x.text, .int .i64 x.a, .int .i64 x.b] 125) = W2 at hbx hbl2 ho2 g0 g1 g2 g3 g4 g5 ⊢
        clear f0 f1 f2 f3 f4 f5
        go_wp2_with fail
        refine (c1.out _).mono ?_
        rintro e w3 ⟨rfl, hb3⟩
        have hbl3 := hd (hbl2.out.next hb3)
        have hbx3 := hd (hbx.out.next hb3)
        have ho3 := hd (ownsRow_below ho2.out hb3)
        have k0 := keepCell hb3 g0
        have k4 := keepCell hb3 g4
        have k5 := keepCell hb3 g5
        have hUo : W.heap.size < wo.heap.size := (hown.out.lt W.heap.size rfl).2
        clear hb3 g0 g1 g2 g3 g4 g5
        cases q with
        | false =>
          have hp : wantBad (x, k) = true := by
            have h1 := hq.out; have h2 := hsame.out
            simp only [decide_eq_false_iff_not] at h1
            simp only [wantBad, Bool.not_eq_true', decide_eq_false_iff_not]
            exact fun h => h1 (h2.2 h)
          have hres := hd (show b = false by rw [← hbb.out, goodFilter, zi_hit hlt (by rw [hx.out]; exact hp)]; simp)
          clear hp
          go_wp2_with fail
          go_ret
          exact ⟨by rw [hres.out]; rfl, hbx3.out⟩
        | true =>
          have hwp : wantP x.kind x.no x.num x.text x.a x.b (k : Int) := hsame.out.1 (by simpa using hq.out)
          have hp : wantBad (x, k) = false := by simp only [wantBad, Bool.not_eq_false', decide_eq_true_eq]; exact hwp
          have hst := hd (zi_step hlt hfx.out (by rw [hx.out]; exact hp))
          have hpar := want_parts hwp
          have hsucc := hd (show usesUpto l (k + 1) = incrs (usesUpto l k) (partsL x) by rw [usesUpto_succ hlt, hx.out])
          clear hp
          by_cases h67 : x.kind = 6 ∨ x.kind = 7
          · have hps : partsL x = [x.a, x.b] := by rw [partsL, if_pos h67]
            rw [hps] at hpar hsucc
            obtain ⟨ha0, ha1⟩ := hpar x.a (by simp)
            obtain ⟨hb0, hb1⟩ := hpar x.b (by simp)
            have hab : x.a < x.b := by
              rcases hwp with ⟨_, _, _, _, _, h, _⟩ | ⟨h, _⟩ | ⟨h, h2, _⟩
              · exact h
              · omega
              · omega
            clear hpar hps hwp
            obtain ⟨ma, hma⟩ := Int.eq_ofNat_of_zero_le ha0
            obtain ⟨mb, hmb⟩ := Int.eq_ofNat_of_zero_le hb0
            rw [hma] at k4 ha1 hsucc hab
            rw [hmb] at k5 hb1 hsucc hab
            clear ha0 hb0
            generalize usesUpto l k = us at *
            have hmu : ma < us.length := by omega
            have hmu2 : mb < us.length := by omega
            have hmI : (ma : Int) < (l.length : Int) := by omega
            have hmI2 : (mb : Int) < (l.length : Int) := by omega
            have hval := hbd.out us[ma] (List.getElem_mem hmu)
            have q5 : w3.cell? ⟨W.heap.size, ma, none⟩ = some (.int .i64 us[ma]) := by rw [ho3.out.cellAt ma (by omega), iV_cell hmu]
            have r5 := ho3.out.frozenAt ma
            have hst5 := hd (ho3.out.stored ma (.int .i64 (us[ma] + 1)))
            have hset := hd (show (us.map iV).set ma (.int .i64 (us[ma] + 1)) = (incr us (ma : Int)).map iV by rw [incr, List.map_set, Int.toNat_natCast, List.getD_eq_getElem?_getD, List.getElem?_eq_getElem hmu]; rfl)
            have hge : 6 ≤ x.kind := by omega
            have hle : x.kind ≤ 7 := by omega
            clear h67
            go_upto_region 12 with (fail)
            have hgw := hst5.out.2
            have ho6 := hd hst5.out.1
            rw [hset.out] at ho6
            have e0 := hgw.cell k0 (fun e => by simp only [Option.some.injEq] at e; omega)
            have e5 := hgw.cell k5 (fun e => by simp only [Option.some.injEq] at e; omega)
            have hbl6 := hd (hbl3.out.grown hgw hbl3.out.size (by intro g hgg; cases hgg; exact Nat.le_refl _))
            generalize w3.setCell ⟨W.heap.size, ma, none⟩ (.int .i64 (us[ma] + 1)) = w6 at ho6 e0 e5 hbl6 ⊢
            clear k0 k4 k5 q5 r5 hst5 hgw
            have hbd6 := hd (bdd_incr hbd.out (by omega) (ma : Int))
            have hus6 : (incr us (ma : Int)).length = us.length := incr_len _ _
            have hsucc2 := hd (show usesUpto l (k + 1) = incr (incr us (ma : Int)) (mb : Int) from hsucc.out)
            generalize incr us (ma : Int) = us6 at *
            have hmu6 : mb < us6.length := by omega
            have hval6 := hbd6.out us6[mb] (List.getElem_mem hmu6)
            have q7 : w6.cell? ⟨W.heap.size, mb, none⟩ = some (.int .i64 us6[mb]) := by rw [ho6.out.cellAt mb (by omega), iV_cell hmu6]
            have r7 := ho6.out.frozenAt mb
            have hst7 := hd (ho6.out.stored mb (.int .i64 (us6[mb] + 1)))
            have hset7 := hd (show (us6.map iV).set mb (.int .i64 (us6[mb] + 1)) = (incr us6 (mb : Int)).map iV by rw [incr, List.map_set, Int.toNat_natCast, List.getD_eq_getElem?_getD, List.getElem?_eq_getElem hmu6]; rfl)
            have cin := hd (fun w => within_s x.kind 6 7 w true (by simp; omega))
            go_wp2_with (go_at_call 118; refine (cin.out _).mono ?_; rintro e w' ⟨rfl, rfl⟩)
            go_roundw
            case rel => exact ⟨k + 1, by omega, by go_num, hst.out, by rw [hsucc2.out, ← hset7.out]; exact hst7.out.1, by rw [hsucc2.out]; exact bdd_mono (bdd_incr hbd6.out (by omega) _) (by omega), hbl6.out.grown hst7.out.2 hbl6.out.size (by intro g hgg; cases hgg; exact Nat.le_refl _)⟩
            case measure => simp [intOf]; omega
          · by_cases h8 : x.kind = 8
            · have hps : partsL x = [x.a] := by rw [partsL, if_neg h67, if_pos h8]
              rw [hps] at hpar hsucc
              obtain ⟨ha0, ha1⟩ := hpar x.a (by simp)
              clear hpar hps hwp
              obtain ⟨ma, hma⟩ := Int.eq_ofNat_of_zero_le ha0
              rw [hma] at k4 ha1 hsucc
              clear ha0
              generalize usesUpto l k = us at *
              have hmu : ma < us.length := by omega
              have hmI : (ma : Int) < (l.length : Int) := by omega
              have hval := hbd.out us[ma] (List.getElem_mem hmu)
              have q5 : w3.cell? ⟨W.heap.size, ma, none⟩ = some (.int .i64 us[ma]) := by rw [ho3.out.cellAt ma (by omega), iV_cell hmu]
              have r5 := ho3.out.frozenAt ma
              have hst5 := hd (ho3.out.stored ma (.int .i64 (us[ma] + 1)))
              have hset := hd (show (us.map iV).set ma (.int .i64 (us[ma] + 1)) = (incr us (ma : Int)).map iV by rw [incr, List.map_set, Int.toNat_natCast, List.getD_eq_getElem?_getD, List.getElem?_eq_getElem hmu]; rfl)
              have hge : 6 ≤ x.kind := by omega
              have cin := hd (fun w => within_s x.kind 6 7 w false (by simp; omega))
              clear h67 h8
              go_upto_region 12 with (fail)
              have hgw := hst5.out.2
              have ho6 := hd hst5.out.1
              rw [hset.out] at ho6
              have e0 := hgw.cell k0 (fun e => by simp only [Option.some.injEq] at e; omega)
              have hbl6 := hd (hbl3.out.grown hgw hbl3.out.size (by intro g hgg; cases hgg; exact Nat.le_refl _))
              generalize w3.setCell ⟨W.heap.size, ma, none⟩ (.int .i64 (us[ma] + 1)) = w6 at ho6 e0 hbl6 ⊢
              clear k0 k4 k5 q5 r5 hst5 hgw
              have hsucc2 := hd (show usesUpto l (k + 1) = incr us (ma : Int) from hsucc.out)
              go_wp2_with (go_at_call 118; refine (cin.out _).mono ?_; rintro e w' ⟨rfl, rfl⟩)
              go_roundw
              case rel => exact ⟨k + 1, by omega, by go_num, hst.out, by rw [hsucc2.out]; exact ho6.out, by rw [hsucc2.out]; exact bdd_mono (bdd_incr hbd.out (by omega) _) (by omega), hbl6.out⟩
              case measure => simp [intOf]; omega
            · have hps : partsL x = [] := by rw [partsL, if_neg h67, if_neg h8]
              rw [hps] at hsucc
              have hlt6 : x.kind < 6 := by
                rcases hwp with ⟨h, _⟩ | ⟨h, _⟩ | ⟨h1, h2, h3, _, h, _⟩
                · omega
                · omega
                · rcases (testB_iff _ _ _).1 h with h | h | h <;> omega
              have cin := hd (fun w => within_s x.kind 6 7 w false (by simp; omega))
              clear hpar hps hwp h67 h8
              have hsucc2 := hd (show usesUpto l (k + 1) = usesUpto l k from hsucc.out)
              go_wp2_with (go_at_call 118; refine (cin.out _).mono ?_; rintro e w' ⟨rfl, rfl⟩)
              go_roundw
              case rel => exact ⟨k + 1, by omega, by go_num, hst.out, by rw [hsucc2.out]; exact ho3.out, by rw [hsucc2.out]; exact bdd_mono hbd.out (by omega), hbl3.out⟩
              case measure => simp [intOf]; omega
      · have hkl : k = l.length := by omega
        subst hkl
        have hany := hd (any_none (by simp) hfx.out)
        have hres := hd (show ((usesUpto l l.length).take (l.length - 1)).any notOne = !b by rw [← hbb.out, goodFilter, hany.out]; simp [hn1, hn2])
        have hys := List.length_take (i := l.length - 1) (l := usesUpto l l.length)
        have hCell : ∀ j (h : j < ((usesUpto l l.length).take (l.length - 1)).length), wo.cell? ⟨W.heap.size, j, none⟩ = some (.int .i64 ((usesUpto l l.length).take (l.length - 1))[j]) := by
          intro j hj
          rw [hown.out.cellAt j (by omega), iV_cell (by omega), List.getElem_take]
        generalize (usesUpto l l.length).take (l.length - 1) = ys at hCell hys hres
        have hyl : ys.length + 1 = l.length := by omega
        have hcell := hd hCell
        clear hCell
        have hsub : ((l.length - 1 : Nat) : Int) = (ys.length : Int) := by omega
        have hsub2 : (l.length : Int) - 1 = (ys.length : Int) := by omega
        go_wp2_with fail
        go_loopw [55] (fun i wr => ∃ j : Nat, j ≤ ys.length ∧ i = .int .i64 j ∧ Hd (fidx_from notOne ys j) ∧ wr = wo) (fun i _ => ys.length - (intOf i).toNat)
        case atStart => exact ⟨0, Nat.zero_le _, rfl, fidx_zero _ _, rfl⟩
        case round =>
          obtain ⟨j, hj, rfl, hfj, rfl⟩ := hrel
          by_cases hjl : j < ys.length
          · have f0 := hcell.out j hjl
            have hjI : (j : Int) < (ys.length : Int) := by omega
            cases hp : notOne ys[j] with
            | true =>
              have hres2 := hd (show b = false by have := hres.out; rw [show ys.any notOne = true from List.any_eq_true.2 ⟨_, List.getElem_mem hjl, hp⟩] at this; simpa using this.symm)
              have t1 : (ys[j] == 1) = false := by simpa [notOne] using hp
              clear hp
              go_wp2_with fail
              go_ret
              exact ⟨by rw [hres2.out]; rfl, hbw.out⟩
            | false =>
              have hst := hd (fidx_step hjl hfj.out hp)
              have t1 : (ys[j] == 1) = true := by simpa [notOne] using hp
              clear hp
              go_wp2_with fail
              go_roundw
              case rel => exact ⟨j + 1, by omega, by go_num, hst.out, (by first | rfl | trivial)⟩
              case measure => simp [intOf]; omega
          · have hjI : (ys.length : Int) ≤ (j : Int) := by omega
            have hres2 := hd (show b = true by have := hres.out; rw [any_none (by omega) hfj.out] at this; simpa using this.symm)
            go_wp2_with fail
            go_ret
            exact ⟨by rw [hres2.out]; rfl, hbw.out⟩
  · have hres := hd (show b = false by rw [← hbb.out, goodFilter]; simp; intro h1 h2; omega)
    obtain ⟨a1, c1, rfl, _⟩ := h
    simp only [List.length_map]
    have c0 := hd (fun w => within_s (l.length : Int) 1 20 w false (by simp; omega))
    clear hn
    go_enter Try.func78, Try.ntmps78
    go_wp2_with (go_at_call 118; refine (c0.out _).mono ?_; rintro e w' ⟨rfl, rfl⟩)
    go_ret
    exact ⟨by rw [hres.out]; rfl, below_a1 _⟩
end Go.Proofs.Ytbjilpemckoioaa
