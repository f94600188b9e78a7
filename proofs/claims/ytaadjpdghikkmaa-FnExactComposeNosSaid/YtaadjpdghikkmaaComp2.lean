/- ComposeNos of the program and of the reference. -/
import Derived.Test.YtaadjpdghikkmaaComp
namespace Go.Proofs.Ytaadjpdghikkmaa
open Go.RowKit
set_option linter.unusedVariables false
set_option maxRecDepth 100000
def notIn (m : List Int) (x : Int) : Bool := !hasB m x
def compB (l m : List Int) : Bool := risB l && risB m
def compR (l m : List Int) : List Int := if compB l m then keepN (notIn m) l else []
theorem compR_bad {l m : List Int} (h : compB l m = false) : compR l m = [] := by rw [compR, h]; rfl
theorem compR_len (l m : List Int) : (compR l m).length ≤ l.length := by
  rw [compR]; split
  · exact List.length_filter_le _ _
  · simp
set_option maxHeartbeats 800000 in
theorem ComposeNos_i (l m : List Int) (v u : Value) (w : World) (hl : l.length ≤ 1000000000) (hm : m.length ≤ 1000000000) (h : Sl w v 1 (l.map encI)) (hu : Sl w u 1 (m.map encI)) (b : Bool) (hb : compB l m = b) (r : List Int) (hr : compR l m = r) :
    Calls Try.prog 27 #[v, u] w (SlbPost 3 1 (r.map encI) b w) := by
  obtain ⟨g1, hg1⟩ : ∃ g, risB l = g := ⟨_, rfl⟩
  obtain ⟨g2, hg2⟩ : ∃ g, risB m = g := ⟨_, rfl⟩
  have c1 := hd (fun w h => risingNos_i l v w (by omega) h g1 hg1)
  have c2 := hd (fun w h => risingNos_i m u w (by omega) h g2 hg2)
  have hS := hd h
  have hT := hd hu
  obtain ⟨a0, k0, rfl, _⟩ := h
  obtain ⟨a1, k1, rfl, _⟩ := hu
  simp only [List.length_map] at *
  have hbg := hd (show b = (g1 && g2) by rw [← hb, compB, hg1, hg2])
  have hrg := hd (show r = if (g1 && g2) then keepN (notIn m) l else [] by rw [← hr, compR, compB, hg1, hg2])
  clear hb hr hg1 hg2
  cases g1 with
  | false =>
    go_enter Try.func27, Try.ntmps27
    go_wp2_with fail
    refine (c1.out _ (hS.out.mono (below_a1 _))).mono ?_
    rintro e w2 ⟨rfl, rfl⟩
    go_wp2_with fail
    go_ret2
    exact ⟨.slice none 0 0, none, by rw [hbg.out]; rfl, by rw [hrg.out]; exact OwnR.nil, below_a1 _⟩
  | true =>
    cases g2 with
    | false =>
      go_enter Try.func27, Try.ntmps27
      go_wp2_with fail
      refine (c1.out _ (hS.out.mono (below_a1 _))).mono ?_
      rintro e w2 ⟨rfl, rfl⟩
      go_wp2_with fail
      refine (c2.out _ (hT.out.mono (below_a1 _))).mono ?_
      rintro e w2 ⟨rfl, rfl⟩
      go_wp2_with fail
      go_ret2
      exact ⟨.slice none 0 0, none, by rw [hbg.out]; rfl, by rw [hrg.out]; exact OwnR.nil, below_a1 _⟩
    | true =>
      go_enter Try.func27, Try.ntmps27
      go_wp2_with fail
      refine (c1.out _ (hS.out.mono (below_a1 _))).mono ?_
      rintro e w2 ⟨rfl, rfl⟩
      go_wp2_with fail
      refine (c2.out _ (hT.out.mono (below_a1 _))).mono ?_
      rintro e w2 ⟨rfl, rfl⟩
      go_wp2_with fail
      refine (clone_int l _ _ (by omega) (hS.out.mono (below_a1 _))).mono ?_
      rintro e w2 ⟨v2, rfl, ho2, hb2⟩
      have q0 := hd (keepCell hb2 (show World.cell? _ ⟨w.heap.size, 0, none⟩ = some (.slice a1 m.length k1) by go_simp))
      have hB := hd ((below_a1 w).next hb2)
      have ho3 := hd (ho2.weaken (B' := w.heap.size) (by first | omega | exact Nat.le_refl _ | (simp; done) | (simp; omega)))
      have hn2 := hd (show ∀ k, v2.ownBlock = some k → w.heap.size + 1 ≤ k from fun k hk => by have := (ho2.lt k hk).1; simpa using this)
      have hcl := hd (show ∀ x w', w2.grownBy w' v2.ownBlock → Calls Try.prog 76 #[.int .i64 x, .pointer (some ⟨w.heap.size, 0, none⟩)] w' (fun e w3 => e = .returned (.bool (notIn m x)) ∧ w' = w3) from fun x w' hg => cn_cl m (by omega) _ x _ w' (hT.out.mono (hB.out.grown hg (by have := hB.out.size; omega) (fun g hgg => by have := hn2.out g hgg; omega))) (hg.cell q0.out (fun e => Nat.not_succ_le_self _ (hn2.out _ e.symm))))
      clear hb2 ho2
      go_wp2_with fail
      refine (delfunc (notIn m) l v2 _ w2 w.heap.size hl ho3.out hcl.out).mono ?_
      rintro e w4 ⟨v4, rfl, ho4, hg4, hv4⟩
      have hB4 := hd (hB.out.grown hg4 (by have := hB.out.size; omega) (fun g hgg => by have := hn2.out g hgg; omega))
      replace ho4 := hd ho4
      clear hg4 hv4
      go_wp2_with fail
      go_ret2
      exact ⟨v4, v4.ownBlock, by rw [hbg.out]; rfl, by rw [hrg.out]; exact ho4.out.r, hB4.out⟩
set_option maxHeartbeats 800000 in
theorem ComposeNos_s (l m : List Int) (v u : Value) (w : World) (hl : l.length ≤ 1000000000) (hm : m.length ≤ 1000000000) (h : Sl w v 1 (l.map encI)) (hu : Sl w u 1 (m.map encI)) (b : Bool) (hb : compB l m = b) (r : List Int) (hr : compR l m = r) :
    Calls Try.prog 26 #[v, u] w (SlbPost 3 1 (r.map encI) b w) := by
  obtain ⟨g1, hg1⟩ : ∃ g, risB l = g := ⟨_, rfl⟩
  obtain ⟨g2, hg2⟩ : ∃ g, risB m = g := ⟨_, rfl⟩
  have c1 := hd (fun w h => nos_s l v w (by omega) h g1 hg1)
  have c2 := hd (fun w h => nos_s m u w (by omega) h g2 hg2)
  have hS := hd h
  have hT := hd hu
  obtain ⟨a0, k0, rfl, hrr⟩ := h
  obtain ⟨a1, k1, rfl, _⟩ := hu
  replace hrr := hd hrr
  simp only [List.length_map] at *
  have hbg := hd (show b = (g1 && g2) by rw [← hb, compB, hg1, hg2])
  have hrg := hd (show r = if (g1 && g2) then keepN (notIn m) l else [] by rw [← hr, compR, compB, hg1, hg2])
  clear hb hr hg1 hg2
  cases g1 with
  | false =>
    go_enter Try.func26, Try.ntmps26
    go_wp2_with fail
    refine (c1.out _ hS.out).mono ?_
    rintro e w2 ⟨rfl, rfl⟩
    go_wp2_with fail
    go_ret2
    exact ⟨.slice none 0 0, none, by rw [hbg.out]; rfl, by rw [hrg.out]; exact OwnR.nil, Below.refl _ _⟩
  | true =>
    cases g2 with
    | false =>
      go_enter Try.func26, Try.ntmps26
      go_wp2_with fail
      refine (c1.out _ hS.out).mono ?_
      rintro e w2 ⟨rfl, rfl⟩
      go_wp2_with fail
      refine (c2.out _ hT.out).mono ?_
      rintro e w2 ⟨rfl, rfl⟩
      go_wp2_with fail
      go_ret2
      exact ⟨.slice none 0 0, none, by rw [hbg.out]; rfl, by rw [hrg.out]; exact OwnR.nil, Below.refl _ _⟩
    | true =>
      obtain ⟨i0, hi, hz0, hz1, hz2⟩ := info_parts infoInt
      have Hi := hd hi; have Hz0 := hd hz0; have Hz1 := hd hz1; have Hz2 := hd hz2
      clear hi hz0 hz1 hz2
      go_enter Try.func26, Try.ntmps26
      go_wp2_with fail
      refine (c1.out _ hS.out).mono ?_
      rintro e w2 ⟨rfl, rfl⟩
      go_wp2_with fail
      refine (c2.out _ hT.out).mono ?_
      rintro e w2 ⟨rfl, rfl⟩
      go_wp2_with fail
      go_loopw [6, 19] (fun o i wr => ∃ k : Nat, k ≤ l.length ∧ i = .int .i64 k ∧ Hd (Own wr w.heap.size 3 1 o ((keepN (notIn m) (l.take k)).map encI)) ∧ Hd (Below w.heap.size w wr)) (fun _ i _ => l.length - (intOf i).toNat)
      case atStart => exact ⟨0, Nat.zero_le _, rfl, Own.nil, Below.refl _ _⟩
      case round =>
        obtain ⟨k, hk, rfl, hown, hbl⟩ := hrel
        obtain ⟨wo, rfl⟩ : ∃ wo : World, wo = wr := ⟨_, rfl⟩
        by_cases hlt : k < l.length
        · have hltI : (k : Int) < (l.length : Int) := by omega
          obtain ⟨b1, o1, rfl, C1⟩ := rows_at hrr.out (k := k) (by simpa using hlt)
          have f0 := Cells.rowI l k hlt (C1.mono hbl.out)
          have hsz := hd hbl.out.size
          have hpos := hd (fun h => keep_pos (p := notIn m) hlt h)
          have hneg := hd (fun h => keep_neg (p := notIn m) hlt h)
          have hkl : (keepN (notIn m) (l.take k)).length ≤ 1000000000 := by
            have := List.length_filter_le (fun x => !notIn m x) (l.take k)
            rw [List.length_take] at this
            rw [keepN]; omega
          obtain ⟨q, hq⟩ : ∃ q, hasB m l[k] = q := ⟨_, rfl⟩
          have c3 := hd (fun w h => has_s m l[k] (.slice a1 m.length k1) w (by omega) h q hq)
          generalize l[k] = x at *
          cases q with
          | true =>
            have hst := hd (hpos.out (by rw [notIn, hq]; rfl))
            clear hq
            have hszw : w.heap.size ≤ wo.heap.size := hsz.out
            go_wp2_with fail
            refine (c3.out _ (hT.out.mono hbl.out)).mono ?_
            rintro e w3 ⟨rfl, rfl⟩
            go_wp2_with (at_builtin; refine wpList_appOwn rfl (.tmp 26) (.tmp 28) 36 rfl w.heap.size 3 i0 _ 1 8 Try.underlying36 Hi.out Hz0.out Hz1.out Hz2.out rfl (by decide) _ ((keepN (notIn m) (l.take k)).map encI) [encI x] rfl (hown.out.below (below_a1 _)) _ 1 1 rfl rfl (one_row rfl) (cells_new _ _ _) (encI_one [x]) (by rw [List.length_map]; omega) (by decide) (by first | omega | exact Nat.le_refl _ | (simp; done) | (simp; omega)) ?_; intro v3 w3 ho3 hga hva; have hbl3 := hd ((hbl.out.next (below_a1 _)).grown hga (by first | omega | exact Nat.le_refl _ | (simp; done) | (simp; omega)) (fun g hg => (hown.out.lt g hg).1)); replace ho3 := hd (own_snoc ho3); clear hga hva)
            go_roundw
            case rel => exact ⟨k + 1, by omega, by go_num, by rw [hst.out]; exact ho3.out, hbl3⟩
            case measure => simp [intOf]; omega
          | false =>
            have hst := hd (hneg.out (by rw [notIn, hq]; rfl))
            clear hq
            go_wp2_with fail
            refine (c3.out _ (hT.out.mono hbl.out)).mono ?_
            rintro e w3 ⟨rfl, rfl⟩
            go_wp2_with fail
            go_roundw
            case rel => exact ⟨k + 1, by omega, by go_num, by rw [hst.out]; exact hown.out, hbl⟩
            case measure => simp [intOf]; omega
        · obtain rfl : k = l.length := by omega
          rw [List.take_length] at hown
          have hltI : ¬ (l.length : Int) < (l.length : Int) := by omega
          go_wp2_with fail
          go_ret2
          exact ⟨_, _, by rw [hbg.out]; rfl, by rw [hrg.out]; exact hown.out.r, hbl.out⟩
end Go.Proofs.Ytaadjpdghikkmaa
