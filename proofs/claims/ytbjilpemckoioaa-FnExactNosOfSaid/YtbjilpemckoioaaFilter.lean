/- GoodFilter of the program. -/
import Derived.Test.YtbjilpemckoioaaWant2
import Derived.Test.YtbjilpemckoioaaBases
namespace Go.Proofs.Ytbjilpemckoioaa
open Go.RowKit
set_option linter.unusedVariables false
set_option maxRecDepth 100000

theorem gf_cl (x : Int) (w : World) : Calls Try.prog 135 #[.int .i64 x] w (BoolPost (notOne x) w) := by
  have hs := hd (show notOne x = !(x == 1) from rfl)
  go_enter Try.func135, Try.ntmps135
  go_wp2
  go_ret
  exact ⟨by rw [hs.out]; rfl, Below.refl _ _⟩
set_option maxHeartbeats 800000 in
theorem ix_gfCl (p : Int → Bool) (l : List Int) (v : Value) (w : World) (hl : l.length ≤ 1000000000000) (h : Sl w v 1 (l.map encI))
    (hp : ∀ x ∈ l, ∀ w', Below w.heap.size w w' → Calls Try.prog 135 #[.int .i64 x] w' (BoolPost (p x) w')) :
    Calls Try.prog 159 #[v, .func (.func 135) #[] #[]] w (IntPost (fidx p l) w) := by
  replace hp := hd hp
  rcases h.open with ⟨a1, c1, rfl, hr⟩ | ⟨b1, o1, c1, rfl, hr, C1⟩
  · obtain rfl : l = [] := by simpa using hr
    go_enter Try.func159, Try.ntmps159
    go_wp2
    go_loopw [8] (fun i wr => i = .int .i64 0 ∧ wr = w) (fun _ _ => 0)
    case atStart => exact ⟨rfl, rfl⟩
    case round =>
      obtain ⟨rfl, rfl⟩ := hrel
      go_wp2_with fail
      go_ret
      exact ⟨rfl, Below.refl _ _⟩
  · clear h
    simp only [List.length_map]
    go_enter Try.func159, Try.ntmps159
    go_wp2
    go_loopw [8] (fun i wr => ∃ k : Nat, k ≤ l.length ∧ i = .int .i64 k ∧ Hd (fidx_from p l k) ∧ Hd (Below w.heap.size w wr)) (fun i _ => l.length - (intOf i).toNat)
    case atStart => exact ⟨0, Nat.zero_le _, rfl, fidx_zero p l, Below.refl _ _⟩
    case round =>
      obtain ⟨k, hk, rfl, hfx, hbl⟩ := hrel
      by_cases hlt : k < l.length
      · have f0 := Cells.rowI l k hlt (C1.mono hbl.out)
        cases hpx : p l[k] with
        | true =>
          replace hpx := hd hpx
          go_wp2_with fail
          refine (hp.out l[k] (List.getElem_mem hlt) _ hbl.out).mono ?_
          rw [hpx.out]
          rintro e w2 ⟨rfl, hb⟩
          have hb2 := hd (hbl.out.next hb)
          clear hb
          go_wp2_with fail
          go_ret
          exact ⟨ret_int (fidx_hit hlt hfx.out hpx.out).symm, hb2.out⟩
        | false =>
          replace hpx := hd hpx
          go_wp2_with fail
          refine (hp.out l[k] (List.getElem_mem hlt) _ hbl.out).mono ?_
          rw [hpx.out]
          rintro e w2 ⟨rfl, hb⟩
          have hb2 := hd (hbl.out.next hb)
          clear hb
          go_wp2_with fail
          go_roundw
          case rel => exact ⟨k + 1, by omega, by go_num, fidx_step hlt hfx.out hpx.out, hb2⟩
          case measure => simp [intOf]; omega
      · go_wp2_with fail
        go_ret
        exact ⟨ret_int (fidx_none (by omega) hfx.out).symm, hbl.out⟩
set_option maxHeartbeats 400000 in
theorem cf_gfCl (p : Int → Bool) (l : List Int) (v : Value) (w : World) (hl : l.length ≤ 1000000000000) (h : Sl w v 1 (l.map encI))
    (hp : ∀ x ∈ l, ∀ w', Below w.heap.size w w' → Calls Try.prog 135 #[.int .i64 x] w' (BoolPost (p x) w')) (b : Bool) (hb : l.any p = b) :
    Calls Try.prog 134 #[v, .func (.func 135) #[] #[]] w (BoolPost b w) := by
  have hc := hd (fun w' (hb : Below w.heap.size w w') => ix_gfCl p l v w' hl (h.mono hb) (fun x hx w2 h2 => hp x hx w2 (hb.next h2)))
  have hany := hd hb
  have hany2 := fidx_any p l
  rw [hb] at hany2
  generalize fidx p l = r at hc hany2
  clear h hp hb
  cases b with
  | true =>
    have h0 : 0 ≤ r := hany2.2 rfl
    clear hany2
    go_enter Try.func134, Try.ntmps134
    go_wp2_with fail
    refine (hc.out _ (Below.refl _ _)).mono ?_
    rintro e w2 ⟨rfl, hb⟩
    replace hb := hd hb
    go_wp2_with fail
    go_ret
    exact ⟨rfl, hb.out⟩
  | false =>
    have h0 : decide (0 ≤ r) = false := by have := mt hany2.1 (by simp); simp; omega
    clear hany2
    go_enter Try.func134, Try.ntmps134
    go_wp2_with fail
    refine (hc.out _ (Below.refl _ _)).mono ?_
    rintro e w2 ⟨rfl, hb⟩
    replace hb := hd hb
    go_wp2_with fail
    go_ret
    exact ⟨rfl, hb.out⟩

set_option maxHeartbeats 3200000 in
theorem GoodFilter_i (l : List DWant) (v : Value) (w : World) (hl : l.length ≤ 1000000000000) (h : Sl w v 6 (l.map DWant.enc)) (b : Bool) (hb : goodFilter l = b) :
    Calls Try.prog 81 #[.agg #[v]] w (BoolPost b w) := by
  have hbb := hd hb
  clear hb
  by_cases hn : 1 ≤ l.length ∧ l.length ≤ 20
  · rcases h.open with ⟨a1, c1, rfl, hr⟩ | ⟨b1, o1, c1, rfl, hr, C1⟩
    · exfalso; have : l = [] := by simpa using hr
      subst this; simp at hn
    clear h hr
    obtain ⟨hn1, hn2⟩ := hn
    simp only [List.length_map]
    obtain ⟨i0, hi, hz0, hz1, hz2⟩ := info_parts infoInt
    have Hi := hd hi; have Hz0 := hd hz0; have Hz1 := hd hz1
    have hby : i0.bytes * l.length ≤ 281474976710656 := by rw [hz2]; omega
    clear hi hz0 hz1 hz2
    obtain ⟨W, hW⟩ : ∃ W, W = (w.alloc (.cells #[.slice (some ⟨b1, o1, none⟩) l.length c1] 68)) := ⟨_, rfl⟩
    have hW0 := hd (show Below w.heap.size w W by rw [hW]; exact below_a1 _)
    have hq1 := hd (show W.cell? ⟨w.heap.size, 0, none⟩ = some (.slice (some ⟨b1, o1, none⟩) l.length c1) by rw [hW]; go_simp)
    have c0 := hd (fun w => within_i (l.length : Int) 1 20 w true (by simp; omega))
    replace hW := hd hW
    have htok : True := trivial
    go_enter Try.func81, Try.ntmps81
    go_upto_region 3 with (go_at_call 123; refine (c0.out _).mono ?_; rintro e w' ⟨rfl, rfl⟩)
    rw [← hW.out]
    have q1 := hq1.out
    go_wp2_with (at_make; refine wpList_make_full _ rfl (.tmp 15) (.tmp 15) 63 rfl W.heap.size 3 i0 _ 1 Try.underlying63 Hi.out Hz0.out Hz1.out .i64 .i64 _ _ l.length rfl rfl rfl rfl hby (by unfold maxLen; omega) (Nat.le_refl _) ?_; intro w1 ho hg; replace ho := hd ho; replace hg := hd hg; have q2 := (grownBy_below hg.out).cell (World.block_lt_of_cell? W _ q1); rw [q1] at q2)
    have hq2 := hd q2
    have hlt2 := hd (World.block_lt_of_cell? W _ q1)
    clear q1 q2
    go_loopw [20] (fun i wr => ∃ k : Nat, k ≤ l.length ∧ i = .int .i64 k ∧ Hd (fidx_from wantBad l.zipIdx k) ∧ Hd (wr.ownsRow W.heap.size 3 1 (.slice (some ⟨W.heap.size, 0, none⟩) l.length l.length) l.length ((usesUpto l k).map iV)) ∧ Hd (bdd (2 * k) (usesUpto l k)) ∧ Hd (Below W.heap.size W wr)) (fun i _ => l.length - (intOf i).toNat)
    case atStart =>
      refine ⟨0, Nat.zero_le _, rfl, fidx_zero _ _, ?_, bdd_zero _, grownBy_below hg.out⟩
      have h0 := ho.out
      have e : (madeCells (Value.cells (.int .i64 0)) (l.length * 1)).toList = (usesUpto l 0).map iV := by
        apply List.ext_getElem?
        intro i
        by_cases hi : i < l.length
        · simp [madeCells, usesUpto, hi, iV, Value.cells, Nat.mod_one]
        · simp [madeCells, usesUpto, hi]
      rw [e] at h0
      exact h0
    case round =>
      obtain ⟨k, hk, rfl, hfx, hown, hbd, hbl⟩ := hrel
      have hbw := hd (hW0.out.trans (hbl.out.mono hW0.out.size))
      obtain ⟨wo, rfl⟩ : ∃ wo : World, wo = wr := ⟨_, rfl⟩
      have hlen := usesUpto_len l k
      by_cases hlt : k < l.length
      · have hltI : (k : Int) < (l.length : Int) := by omega
        obtain ⟨f0, f1, f2, f3, f4, f5⟩ := Cells.rowWant l k hlt (C1.mono hbw.out)
        generalize hx : l[k] = x at *
        replace hx := hd hx
        obtain ⟨p, hp⟩ : ∃ p, wantBad (x, k) = p := ⟨_, rfl⟩
        have c1 := hd (fun w => wantOK_i x.kind x.no x.num x.text x.a x.b (k : Int) w (by omega) (by omega))
        rw [show decide (wantP x.kind x.no x.num x.text x.a x.b (k : Int)) = !p by rw [← hp]; simp [wantBad]] at c1
        replace hp := hd hp
        have hsz := hd hbl.out.size
        go_upto_region 7 with (fail)
        have hbx := hd (hbw.out.next (below_a1 wo (a := (.cells #[.int .i64 x.kind, .int .i64 x.no, .int .i64 x.num, .string x.text, .int .i64 x.a, .int .i64 x.b] 125))))
        have hbl2 := hd (hbl.out.next (below_a1 wo (a := (.cells #[.int .i64 x.kind, .int .i64 x.no, .int .i64 x.num, .string x.text, .int .i64 x.a, .int .i64 x.b] 125))))
        have ho2 := hd (ownsRow_below hown.out (below_a1 wo (a := (.cells #[.int .i64 x.kind, .int .i64 x.no, .int .i64 x.num, .string x.text, .int .i64 x.a, .int .i64 x.b] 125))))
        have g0 : (World.alloc wo (.cells #[.int .i64 x.kind, .int .i64 x.no, .int .i64 x.num, .string x.text, .int .i64 x.a, .int .i64 x.b] 125)).cell? ⟨wo.heap.size, 0, none⟩ = some (.int .i64 x.kind) := by go_simp
        have g1 : (World.alloc wo (.cells #[.int .i64 x.kind, .int .i64 x.no, .int .i64 x.num, .string x.text, .int .i64 x.a, .int .i64 x.b] 125)).cell? ⟨wo.heap.size, 1, none⟩ = some (.int .i64 x.no) := by go_simp
        have g2 : (World.alloc wo (.cells #[.int .i64 x.kind, .int .i64 x.no, .int .i64 x.num, .string x.text, .int .i64 x.a, .int .i64 x.b] 125)).cell? ⟨wo.heap.size, 2, none⟩ = some (.int .i64 x.num) := by go_simp
        have g3 : (World.alloc wo (.cells #[.int .i64 x.kind, .int .i64 x.no, .int .i64 x.num, .string x.text, .int .i64 x.a, .int .i64 x.b] 125)).cell? ⟨wo.heap.size, 3, none⟩ = some (.string x.text) := by go_simp
        have g4 : (World.alloc wo (.cells #[.int .i64 x.kind, .int .i64 x.no, .int .i64 x.num, .string x.text, .int .i64 x.a, .int .i64 x.b] 125)).cell? ⟨wo.heap.size, 4, none⟩ = some (.int .i64 x.a) := by go_simp
        have g5 : (World.alloc wo (.cells #[.int .i64 x.kind, .int .i64 x.no, .int .i64 x.num, .string x.text, .int .i64 x.a, .int .i64 x.b] 125)).cell? ⟨wo.heap.size, 5, none⟩ = some (.int .i64 x.b) := by go_simp
        generalize World.alloc wo (.cells #[.int .i64 x.kind, .int .i64 x.no, .int .i64 x.num, .string x.text, .int .i64 x.a, .int .i64 x.b] 125) = W2 at hbx hbl2 ho2 g0 g1 g2 g3 g4 g5 ⊢
        clear f0 f1 f2 f3 f4 f5
        go_wp2_with fail
        refine (c1.out _).mono ?_
        rintro e w3 ⟨rfl, hb3⟩
        have hbl3 := hd (hbl2.out.next hb3)
        have hbx3 := hd (hbx.out.next hb3)
        have ho3 := hd (ownsRow_below ho2.out hb3)
        have k0 := keepCell hb3 g0
        have k1 := keepCell hb3 g1
        have k2 := keepCell hb3 g2
        have k3 := keepCell hb3 g3
        have k4 := keepCell hb3 g4
        have k5 := keepCell hb3 g5
        clear hb3 g0 g1 g2 g3 g4 g5
        cases p with
        | true =>
          have hres := hd (show b = false by rw [← hbb.out, goodFilter, zi_hit hlt (by rw [hx.out]; exact hp.out)]; simp)
          go_wp2_with fail
          go_ret
          exact ⟨by rw [hres.out]; rfl, hbx3.out⟩
        | false =>
          have hst := hd (zi_step hlt hfx.out (by rw [hx.out]; exact hp.out))
          have hwp : wantP x.kind x.no x.num x.text x.a x.b (k : Int) := by have := hp.out; simpa [wantBad] using this
          have hpar := hd (want_parts hwp)
          have hpl := parts_len x
          have hsucc := hd (show usesUpto l (k + 1) = incrs (usesUpto l k) (partsL x) by rw [usesUpto_succ hlt, hx.out])
          clear hwp
          go_wp2_with fail
          refine (parts_i x _).mono ?_
          rintro e w4 ⟨v4, rfl, hs4, hb4, hf4⟩
          have hbl4 := hd (hbl3.out.next hb4)
          have ho4 := hd (ownsRow_below ho3.out hb4)
          have hU : W.heap.size < w3.heap.size := (ho3.out.lt W.heap.size rfl).2
          clear hb4 k0 k1 k2 k3 k4 k5
          generalize hps : partsL x = ps at *
          replace hps := hd hps
          rcases hs4.open with ⟨a4, c4, rfl, hr4⟩ | ⟨b4, o4, c4, rfl, hr4, C4⟩
          · obtain rfl : ps = [] := by simpa using hr4
            clear hs4 hf4 hr4
            go_wp2_with fail
            go_loopw [32] (fun i wr => i = .int .i64 0 ∧ wr = w4) (fun _ _ => 0)
            case atStart => exact ⟨rfl, rfl⟩
            case round =>
              obtain ⟨rfl, rfl⟩ := hrel
              go_wp2_with fail
              go_roundw
              case rel => exact ⟨k + 1, by omega, by go_num, hst.out, by rw [hsucc.out]; exact ho4.out, by rw [hsucc.out]; exact bdd_mono hbd.out (by omega), hbl4.out⟩
              case measure => simp [intOf]; omega
          · have hne := hd (show some b4 ≠ some W.heap.size from fun e => by have := hf4 b4 rfl; cases e; omega)
            replace C4 := hd C4
            clear hs4 hf4 hr4
            simp only [List.length_map]
            go_wp2_with fail
            go_loopw [32] (fun i wr => ∃ j : Nat, j ≤ ps.length ∧ i = .int .i64 j ∧ Hd (wr.ownsRow W.heap.size 3 1 (.slice (some ⟨W.heap.size, 0, none⟩) l.length l.length) l.length ((incrs (usesUpto l k) (ps.take j)).map iV)) ∧ Hd (bdd (2 * k + j) (incrs (usesUpto l k) (ps.take j))) ∧ Hd (w4.grownBy wr (some W.heap.size))) (fun i _ => ps.length - (intOf i).toNat)
            case atStart => exact ⟨0, Nat.zero_le _, rfl, by have := ho4.out; simpa [incrs, Hd] using this, by have := hbd.out; simpa [incrs, Hd] using this, grownBy_refl _ _⟩
            case round =>
              obtain ⟨j, hj, rfl, ho5, hbd5, hg5⟩ := hrel
              by_cases hjl : j < ps.length
              · have f0 := Cells.rowI ps j hjl (C4.out.kept hg5.out hne.out)
                obtain ⟨hp0, hp1⟩ := hpar.out ps[j] (List.getElem_mem hjl)
                obtain ⟨m, hm⟩ := Int.eq_ofNat_of_zero_le hp0
                rw [hm] at f0 hp1
                have hul : (incrs (usesUpto l k) (ps.take j)).length = l.length := by rw [incrs_len, hlen]
                have htk := hd (show incrs (usesUpto l k) (ps.take (j + 1)) = incr (incrs (usesUpto l k) (ps.take j)) (m : Int) by rw [List.take_succ_eq_append_getElem hjl, incrs, List.foldl_append, hm]; rfl)
                generalize incrs (usesUpto l k) (ps.take j) = us at *
                have hmu : m < us.length := by omega
                have hmI : (m : Int) < (l.length : Int) := by omega
                have hval := hbd5.out us[m] (List.getElem_mem hmu)
                have q5 : wr.cell? ⟨W.heap.size, m, none⟩ = some (.int .i64 us[m]) := by rw [ho5.out.cellAt m (by omega), iV_cell hmu]
                have r5 := ho5.out.frozenAt m
                have hst5 := hd (ho5.out.stored m (.int .i64 (us[m] + 1)))
                have hset := hd (show (us.map iV).set m (.int .i64 (us[m] + 1)) = (incr us (m : Int)).map iV by rw [incr, List.map_set, Int.toNat_natCast, List.getD_eq_getElem?_getD, List.getElem?_eq_getElem hmu]; rfl)
                go_wp2_with fail
                go_roundw
                case rel => exact ⟨j + 1, by omega, by go_num, by rw [htk.out, ← hset.out]; exact hst5.out.1, by rw [htk.out]; exact bdd_mono (bdd_incr hbd5.out (by omega) _) (by omega), grownBy_trans hg5.out hst5.out.2 (.inl rfl)⟩
                case measure => simp [intOf]; omega
              · have hjj : j = ps.length := by omega
                subst hjj
                rw [List.take_length] at ho5 hbd5
                go_wp2_with fail
                go_roundw
                case rel => exact ⟨k + 1, by omega, by go_num, hst.out, by rw [hsucc.out]; exact ho5.out, by rw [hsucc.out]; exact bdd_mono hbd5.out (by omega), hbl4.out.grown hg5.out hbl4.out.size (by intro g hgg; cases hgg; exact Nat.le_refl _)⟩
                case measure => simp [intOf]; omega
      · have hkl : k = l.length := by omega
        subst hkl
        have hany := hd (any_none (by simp) hfx.out)
        have hres := hd (show ((usesUpto l l.length).take (l.length - 1)).any notOne = !b by rw [← hbb.out, goodFilter, hany.out]; simp [hn1, hn2])
        go_wp2_with fail
        refine (cf_gfCl notOne ((usesUpto l l.length).take (l.length - 1)) _ _ (by rw [List.length_take]; omega) (Sl_prefix hown.out (by omega)) (fun x _ w' _ => gf_cl x w') _ hres.out).mono ?_
        rintro e w6 ⟨rfl, hb6⟩
        have hb7 := hd (hbw.out.next hb6)
        clear hb6
        go_wp2_with fail
        go_ret
        exact ⟨by simp, hb7.out⟩
  · have hres := hd (show b = false by rw [← hbb.out, goodFilter]; simp; intro h1 h2; omega)
    obtain ⟨a1, c1, rfl, _⟩ := h
    simp only [List.length_map]
    have c0 := hd (fun w => within_i (l.length : Int) 1 20 w false (by simp; omega))
    clear hn
    go_enter Try.func81, Try.ntmps81
    go_wp2_with (go_at_call 123; refine (c0.out _).mono ?_; rintro e w' ⟨rfl, rfl⟩)
    go_ret
    exact ⟨by rw [hres.out]; rfl, below_a1 _⟩
end Go.Proofs.Ytbjilpemckoioaa
