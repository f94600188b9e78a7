/- PeepholeOf, of the program and of the reference. -/
import Derived.Test.YtbjilpemckoioaaBetS
import Derived.Test.YtbjilpemckoioaaBetI
import Derived.Deep.LoopGhost
namespace Go.Proofs.Ytbjilpemckoioaa
open Go.RowKit
set_option linter.unusedVariables false
set_option maxRecDepth 100000
set_option maxHeartbeats 4000000 in
theorem PeepholeOf_s (l : List DInstr) (v : Value) (w : World) (hl : l.length ≤ 1048576) (h : Sl w v 6 (l.map DInstr.enc)) (b : Bool) (r : List DInstr) (hr : phP l b r) :
    Calls Try.prog 26 #[.agg #[v]] w (AggbPost 119 6 (r.map DInstr.enc) b w) := by
  obtain ⟨hb, hrf, hrt⟩ := hr
  have c1 := hd (fun v w h => GoodProgram_s l v w (by omega) h b hb.symm)
  have hS := hd h
  cases b with
  | false =>
    replace hrf := hd (hrf rfl)
    clear hb hrt
    obtain ⟨a1, k1, rfl, _⟩ := h
    simp only [List.length_map] at hS ⊢
    go_enter Try.func26, Try.ntmps26
    go_wp2_with fail
    refine (c1.out _ _ (hS.out.mono (below_a2 _))).mono ?_
    rintro e w2 ⟨rfl, hb2⟩
    have hx2 := Box1.below (b := w.heap.size + 1) (v := .slice none 0 0) ⟨by go_simp, by go_simp⟩ hb2
    have Q1 := hx2.1; have Q2 := hx2.2
    have hB := hd ((below_a2 w).next hb2)
    clear hb2 hx2
    go_wp2_with fail
    refine bodyPost_ret (v := .tuple #[.agg #[.slice none 0 0], .bool false]) (by simp [results, Try.results26, go_sem, Q1]) rfl ⟨_, none, rfl, by rw [hrf.out]; exact OwnR.nil, ?_⟩
    exact hB.out.setCell (by simp) _
  | true =>
    obtain ⟨hok, hn1, hn2⟩ := good_okPr hb.symm
    obtain ⟨N, hN⟩ := hrt rfl
    have hN := hd hN
    have hok := hd hok
    rcases h.open with ⟨a1, k1, rfl, hrr⟩ | ⟨b1, o1, c0, rfl, hrr, C1⟩
    · exfalso; have : l = [] := by simpa using hrr
      subst this; simp at hn1
    clear hb hrf h hrr hrt
    simp only [List.length_map] at hS ⊢
    obtain ⟨i0, hi, hz0, hz1, hz2⟩ := info_parts infoInstr
    have Hi := hd hi; have Hz0 := hd hz0; have Hz1 := hd hz1; have Hz2 := hd hz2
    clear hi hz0 hz1 hz2
    go_enter Try.func26, Try.ntmps26
    go_wp2_with fail
    refine (c1.out _ _ (hS.out.mono (below_a2 _))).mono ?_
    rintro e w2 ⟨rfl, hb2⟩
    have q0 := keepCell hb2 (show World.cell? _ ⟨w.heap.size, 0, none⟩ = some (.slice (some ⟨b1, o1, none⟩) l.length c0) by go_simp)
    have hx2 := hd (Box1.below (b := w.heap.size + 1) (v := .slice none 0 0) ⟨by go_simp, by go_simp⟩ hb2)
    have hB := hd ((below_a2 w).next hb2)
    have hz2 : w.heap.size + 2 ≤ w2.heap.size := by have := hb2.size; simp at this; omega
    clear hb2 c1
    have hba := hd (below_a1 w2 (a := .cells #[] 119))
    have hC5 := hd (((C1.mono (hB.out)).mono hba.out).flat (DInstr.enc_len l))
    have q0a := keepCell hba.out q0
    have hz2' : w.heap.size < w2.heap.size := by omega
    go_upto_region 4 with (at_builtin; refine wpList_appOwn rfl (.tmp 12) (.tmp 14) 50 rfl w2.heap.size 119 i0 _ 6 56 Try.underlying50 Hi.out Hz0.out Hz1.out Hz2.out rfl (by decide) _ [] (l.map DInstr.enc) rfl (own_made w2 119 6) ⟨b1, o1, none⟩ l.length c0 (by rw [List.length_map]) rfl (DInstr.enc_len l) hC5.out (DInstr.enc_one l) (by simp; omega) (by decide) (by simp) ?_; intro v3 w3 ho3 hga hva; have hb3 := hd (hba.out.grown hga (by simp) (fun q hq => by cases hq; exact Nat.le_refl _)); rw [List.nil_append] at ho3; replace ho3 := hd ho3; clear hga hva)
    have hB3 := hd (hB.out.next hb3.out)
    have hx3 := hd (hx2.out.below hb3.out)
    have ho3' := hd (ho3.out.weaken hz2)
    clear hb3 ho3 hx2 hB q0
    go_wp2_with fail
    go_loopg [4, 5] N (fun kx s4 s5 wr => ∃ (L : List DInstr) (k n : Nat), s5 = .int .i64 k ∧ n ≤ kx ∧ L.length ≤ 60 ∧ Hd (okPr L) ∧ Hd (Ph n L k r) ∧ Hd (Own wr (w.heap.size + 2) 119 6 s4 (L.map DInstr.enc)) ∧ Hd (Box1 wr (w.heap.size + 1) (.slice none 0 0)) ∧ Hd (Below w.heap.size w wr))
    case atStart => exact ⟨l, 0, N, rfl, Nat.le_refl _, hn2, hok, hN, ho3', hx3, hB3⟩
    case round =>
      clear ho3' hx3 hB3 hN hok
      obtain ⟨L, k, n, rfl, hnk, hL, hok, hP, ho, hx, hbl⟩ := hrel
      obtain ⟨wo, rfl⟩ : ∃ wo : World, wo = wr := ⟨_, rfl⟩
      obtain ⟨a4, c4, rfl, _⟩ := ho.out.sl
      rw [List.length_map] at ho ⊢
      by_cases hlt : k < L.length
      · have hltI : (k : Int) < (L.length : Int) := by omega
        have hz := hbl.out.size
        have hxz := hx.out.lt
        cases hB : betterR L k with
        | none =>
          obtain ⟨m, hm, hP2⟩ := hP.out.none hlt hB
          have cb := hd (better8_s L k _ wo hL hlt hok.out ho.out.sl none hB)
          have hP2 := hd hP2
          have hmk : m + 1 ≤ n := by omega
          have hwk : IntKind.i64.wrap ((k : Int) + 1) = (k : Int) + 1 := IntWalk.i64_in _ (by omega)
          clear hB hP hm
          go_wp2_with fail
          refine cb.out.mono ?_
          rintro e w5 ⟨v5, rfl, ho5, hb5⟩
          have hO5 := hd (ho.out.below hb5)
          have hX5 := hd (hx.out.below hb5)
          have hB5 := hd (hbl.out.next hb5)
          clear ho5 hb5
          go_wp2_with fail
          go_roundg m
          case measure => omega
          case rel => exact ⟨L, k + 1, m, by go_num, Nat.le_refl _, hL, hok, hP2, hO5, hX5, hB5⟩
        | some L2 =>
          obtain ⟨m, hm, hP2⟩ := hP.out.some hlt hB
          obtain ⟨hok2, hl2, _⟩ := better_ok hok.out hL hB
          have cb := hd (better8_s L k _ wo hL hlt hok.out ho.out.sl (some L2) hB)
          have hP2 := hd hP2
          have hok2 := hd hok2
          have hmk : m + 1 ≤ n := by omega
          clear hB hP hm
          go_wp2_with fail
          refine cb.out.mono ?_
          rintro e w5 ⟨v5, rfl, ho5, hb5⟩
          have hO5 := hd (show Own w5 (w.heap.size + 2) 119 6 v5 (L2.map DInstr.enc) from ho5.weaken (by omega))
          have hX5 := hd (hx.out.below hb5)
          have hB5 := hd (hbl.out.next hb5)
          clear ho5 hb5
          go_wp2_with fail
          go_roundg m
          case measure => omega
          case rel => exact ⟨L2, 0, m, by first | rfl | go_num, Nat.le_refl _, by omega, hok2, hP2, hO5, hX5, hB5⟩
      · have hltI : ¬ (k : Int) < (L.length : Int) := by omega
        have hrL := hd (hP.out.end (by omega))
        have Q1 := hx.out.1; have Q2 := hx.out.2
        have hfin := hd (show OwnR (wo.setCell ⟨w.heap.size + 1, 0, none⟩ (.slice a4 L.length c4)) w.heap.size 119 6 (.slice a4 L.length c4) (r.map DInstr.enc) (Value.slice a4 L.length c4).ownBlock by
          rw [hrL.out]
          exact ((ho.out.weaken (by omega)).kept (grownBy_setCell _ _ _) (own_ne (B := w.heap.size + 1) (fun k hk => by have := (ho.out.lt k hk).1; omega) (Nat.le_refl _))).r)
        clear hP
        go_wp2_with fail
        refine bodyPost_ret (v := .tuple #[.agg #[.slice a4 L.length c4], .bool true]) (by simp [results, Try.results26, go_sem, Q1]) rfl ⟨_, _, rfl, hfin.out, ?_⟩
        exact hbl.out.setCell (by simp) _
set_option maxHeartbeats 4000000 in
theorem PeepholeOf_i (l : List DInstr) (v : Value) (w : World) (hl : l.length ≤ 1048576) (h : Sl w v 6 (l.map DInstr.enc)) (b : Bool) (r : List DInstr) (hr : phP l b r) :
    Calls Try.prog 28 #[.agg #[v]] w (AggbPost 119 6 (r.map DInstr.enc) b w) := by
  obtain ⟨hb, hrf, hrt⟩ := hr
  have c1 := hd (fun v w h => GoodProgram_i l v w (by omega) h b hb.symm)
  have hS := hd h
  cases b with
  | false =>
    replace hrf := hd (hrf rfl)
    clear hb hrt
    obtain ⟨a1, k1, rfl, _⟩ := h
    simp only [List.length_map] at hS ⊢
    go_enter Try.func28, Try.ntmps28
    go_wp2_with fail
    refine (c1.out _ _ (hS.out.mono (below_a2 _))).mono ?_
    rintro e w2 ⟨rfl, hb2⟩
    have hx2 := Box1.below (b := w.heap.size + 1) (v := .slice none 0 0) ⟨by go_simp, by go_simp⟩ hb2
    have Q1 := hx2.1; have Q2 := hx2.2
    have hB := hd ((below_a2 w).next hb2)
    clear hb2 hx2
    go_wp2_with fail
    refine bodyPost_ret (v := .tuple #[.agg #[.slice none 0 0], .bool false]) (by simp [results, Try.results28, go_sem, Q1]) rfl ⟨_, none, rfl, by rw [hrf.out]; exact OwnR.nil, ?_⟩
    exact hB.out.setCell (by simp) _
  | true =>
    obtain ⟨hok, hn1, hn2⟩ := good_okPr hb.symm
    obtain ⟨N, hN⟩ := hrt rfl
    have hN := hd hN
    have hok := hd hok
    rcases h.open with ⟨a1, k1, rfl, hrr⟩ | ⟨b1, o1, c0, rfl, hrr, C1⟩
    · exfalso; have : l = [] := by simpa using hrr
      subst this; simp at hn1
    clear hb hrf h hrr hrt
    simp only [List.length_map] at hS ⊢
    obtain ⟨i0, hi, hz0, hz1, hz2⟩ := info_parts infoInstr
    have Hi := hd hi; have Hz0 := hd hz0; have Hz1 := hd hz1; have Hz2 := hd hz2
    clear hi hz0 hz1 hz2
    go_enter Try.func28, Try.ntmps28
    go_wp2_with fail
    refine (c1.out _ _ (hS.out.mono (below_a2 _))).mono ?_
    rintro e w2 ⟨rfl, hb2⟩
    have q0 := keepCell hb2 (show World.cell? _ ⟨w.heap.size, 0, none⟩ = some (.slice (some ⟨b1, o1, none⟩) l.length c0) by go_simp)
    have hx2 := hd (Box1.below (b := w.heap.size + 1) (v := .slice none 0 0) ⟨by go_simp, by go_simp⟩ hb2)
    have hB := hd ((below_a2 w).next hb2)
    have hz2 : w.heap.size + 2 ≤ w2.heap.size := by have := hb2.size; simp at this; omega
    clear hb2 c1
    have ccl := hd (clone_instr l _ w2 (by omega) (hS.out.mono hB.out))
    go_upto_region 4 with (go_at_call 72; refine ccl.out.mono ?_; rintro e w3 ⟨v3, rfl, ho3, hb3⟩; replace ho3 := hd ho3; replace hb3 := hd hb3)
    clear ccl
    have hB3 := hd (hB.out.next hb3.out)
    have hx3 := hd (hx2.out.below hb3.out)
    have ho3' := hd (ho3.out.weaken hz2)
    clear hb3 ho3 hx2 hB q0
    go_wp2_with fail
    go_loopg [4, 5] N (fun kx s4 s5 wr => ∃ (L : List DInstr) (k n : Nat), s5 = .int .i64 k ∧ n ≤ kx ∧ L.length ≤ 60 ∧ Hd (okPr L) ∧ Hd (Ph n L k r) ∧ Hd (Own wr (w.heap.size + 2) 119 6 s4 (L.map DInstr.enc)) ∧ Hd (Box1 wr (w.heap.size + 1) (.slice none 0 0)) ∧ Hd (Below w.heap.size w wr))
    case atStart => exact ⟨l, 0, N, rfl, Nat.le_refl _, hn2, hok, hN, ho3', hx3, hB3⟩
    case round =>
      clear ho3' hx3 hB3 hN hok
      obtain ⟨L, k, n, rfl, hnk, hL, hok, hP, ho, hx, hbl⟩ := hrel
      obtain ⟨wo, rfl⟩ : ∃ wo : World, wo = wr := ⟨_, rfl⟩
      obtain ⟨a4, c4, rfl, _⟩ := ho.out.sl
      rw [List.length_map] at ho ⊢
      by_cases hlt : k < L.length
      · have hltI : (k : Int) < (L.length : Int) := by omega
        have hz := hbl.out.size
        have hxz := hx.out.lt
        cases hB : betterR L k with
        | none =>
          obtain ⟨m, hm, hP2⟩ := hP.out.none hlt hB
          have cb := hd (better_i L k _ wo hL hlt hok.out ho.out.sl none hB)
          have hP2 := hd hP2
          have hmk : m + 1 ≤ n := by omega
          have hwk : IntKind.i64.wrap ((k : Int) + 1) = (k : Int) + 1 := IntWalk.i64_in _ (by omega)
          clear hB hP hm
          go_wp2_with fail
          refine cb.out.mono ?_
          rintro e w5 ⟨v5, rfl, ho5, hb5⟩
          have hO5 := hd (ho.out.below hb5)
          have hX5 := hd (hx.out.below hb5)
          have hB5 := hd (hbl.out.next hb5)
          clear ho5 hb5
          go_wp2_with fail
          go_roundg m
          case measure => omega
          case rel => exact ⟨L, k + 1, m, by go_num, Nat.le_refl _, hL, hok, hP2, hO5, hX5, hB5⟩
        | some L2 =>
          obtain ⟨m, hm, hP2⟩ := hP.out.some hlt hB
          obtain ⟨hok2, hl2, _⟩ := better_ok hok.out hL hB
          have cb := hd (better_i L k _ wo hL hlt hok.out ho.out.sl (some L2) hB)
          have hP2 := hd hP2
          have hok2 := hd hok2
          have hmk : m + 1 ≤ n := by omega
          clear hB hP hm
          go_wp2_with fail
          refine cb.out.mono ?_
          rintro e w5 ⟨v5, rfl, ho5, hb5⟩
          have hO5 := hd (show Own w5 (w.heap.size + 2) 119 6 v5 (L2.map DInstr.enc) from ho5.weaken (by omega))
          have hX5 := hd (hx.out.below hb5)
          have hB5 := hd (hbl.out.next hb5)
          clear ho5 hb5
          go_wp2_with fail
          go_roundg m
          case measure => omega
          case rel => exact ⟨L2, 0, m, by first | rfl | go_num, Nat.le_refl _, by omega, hok2, hP2, hO5, hX5, hB5⟩
      · have hltI : ¬ (k : Int) < (L.length : Int) := by omega
        have hrL := hd (hP.out.end (by omega))
        have Q1 := hx.out.1; have Q2 := hx.out.2
        have hfin := hd (show OwnR (wo.setCell ⟨w.heap.size + 1, 0, none⟩ (.slice a4 L.length c4)) w.heap.size 119 6 (.slice a4 L.length c4) (r.map DInstr.enc) (Value.slice a4 L.length c4).ownBlock by
          rw [hrL.out]
          exact ((ho.out.weaken (by omega)).kept (grownBy_setCell _ _ _) (own_ne (B := w.heap.size + 1) (fun k hk => by have := (ho.out.lt k hk).1; omega) (Nat.le_refl _))).r)
        clear hP
        go_wp2_with fail
        refine bodyPost_ret (v := .tuple #[.agg #[.slice a4 L.length c4], .bool true]) (by simp [results, Try.results28, go_sem, Q1]) rfl ⟨_, _, rfl, hfin.out, ?_⟩
        exact hbl.out.setCell (by simp) _
end Go.Proofs.Ytbjilpemckoioaa
