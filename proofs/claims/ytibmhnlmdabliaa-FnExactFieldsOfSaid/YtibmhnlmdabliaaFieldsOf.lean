/- FieldsOf of both sides. -/
import Derived.Test.YtibmhnlmdabliaaKindW
namespace Go.Proofs.Ytibmhnlmdabliaa
open Go.RowKit
set_option linter.unusedVariables false
set_option maxRecDepth 100000
def kidsR (l : List DType) (k : Int) (b : Bool) : List Int := if b then (kidsOf l k.toNat).map (fun n : Nat => (n : Int)) else []
def kidP (l : List DType) (k : Int) : Prop := goodP l ∧ 0 ≤ k ∧ k < (l.length : Int)
theorem kidsR_len (l : List DType) (k : Int) (b : Bool) : (kidsR l k b).length ≤ l.length := by
  rw [kidsR]
  split
  · rw [List.length_map, kidsOf, seg]
    exact Nat.le_trans (List.length_filter_le _ _) (by rw [List.length_range']; omega)
  · simp
theorem kidsN (l : List Nat) : l.map encN = (l.map (fun n : Nat => (n : Int))).map encI := by rw [List.map_map]; rfl
theorem good_up {l : List DType} (h : goodP l) : ∀ i, i < l.length → U l i < (i : Int) := preL_up ((flat_iff h.1.1).1 h.1).1 (Nat.le_refl _)
set_option maxHeartbeats 1600000 in
theorem FieldsOf_s (l : List DType) (k : Int) (v : Value) (w : World) (hl : l.length ≤ 1000000000) (hs : ∀ x ∈ l, x.name.size ≤ 1000000000000) (h : Sl w v 6 (l.map DType.enc)) (b : Bool) (hb : b = true ↔ kidP l k) (r : List Int) (hr : kidsR l k b = r) :
    Calls Try.prog 53 #[.agg #[v], .int .i64 k] w (SlbPost 3 1 (r.map encI) b w) := by
  obtain ⟨g, hg⟩ := boolOf (goodP l)
  have cg := hd (fun w' (hbb : Below w.heap.size w w') => GoodSchema_s l v w' (by omega) hs (h.mono hbb) g hg)
  have ckid := hd (fun (j : Nat) (w' : World) (hbb : Below w.heap.size w w') (hj : j < l.length) (hgd : goodP l) => kids_s l v j w' (by have := (good_len' hgd).2; omega) (h.mono hbb) hj)
  obtain ⟨a1, c1, rfl, _⟩ := h
  simp only [List.length_map] at cg ckid ⊢
  replace hr := hd hr
  cases g with
  | false =>
    have hbf := hd (show b = false by rw [← Bool.not_eq_true, hb]; rintro ⟨q, _⟩; exact absurd (hg.2 q) (by simp))
    have hrf := hd (show r = [] by rw [← hr.out, kidsR, hbf.out]; rfl)
    clear hb hg
    go_enter Try.func53, Try.ntmps53
    go_wp2_with fail
    refine (cg.out _ (below_a1 _)).mono ?_
    rintro e w2 ⟨rfl, hb2⟩
    have hB := hd ((below_a1 w).next hb2)
    clear hb2
    go_wp2_with fail
    go_ret2
    exact ⟨_, none, by rw [hbf.out]; rfl, by rw [hrf.out]; exact OwnR.nil, hB.out⟩
  | true =>
    by_cases hk0 : k < 0
    · have hbf := hd (show b = false by rw [← Bool.not_eq_true, hb]; rintro ⟨_, q, _⟩; omega)
      have hrf := hd (show r = [] by rw [← hr.out, kidsR, hbf.out]; rfl)
      clear hb hg
      go_enter Try.func53, Try.ntmps53
      go_wp2_with fail
      refine (cg.out _ (below_a1 _)).mono ?_
      rintro e w2 ⟨rfl, hb2⟩
      have hB := hd ((below_a1 w).next hb2)
      clear hb2
      go_wp2_with fail
      go_ret2
      exact ⟨_, none, by rw [hbf.out]; rfl, by rw [hrf.out]; exact OwnR.nil, hB.out⟩
    · by_cases hkl : (l.length : Int) ≤ k
      · have hbf := hd (show b = false by rw [← Bool.not_eq_true, hb]; rintro ⟨_, _, q⟩; omega)
        have hrf := hd (show r = [] by rw [← hr.out, kidsR, hbf.out]; rfl)
        clear hb hg
        go_enter Try.func53, Try.ntmps53
        go_wp2_with fail
        refine (cg.out _ (below_a1 _)).mono ?_
        rintro e w2 ⟨rfl, hb2⟩
        have q := keepCell hb2 (show World.cell? _ ⟨w.heap.size, 0, none⟩ = some (.slice a1 l.length c1) by go_simp)
        have hB := hd ((below_a1 w).next hb2)
        clear hb2
        go_wp2_with fail
        go_ret2
        exact ⟨_, none, by rw [hbf.out]; rfl, by rw [hrf.out]; exact OwnR.nil, hB.out⟩
      · obtain ⟨j, rfl⟩ := Int.eq_ofNat_of_zero_le (show 0 ≤ k by omega)
        have hjl : j < l.length := by omega
        have hgp := hd (hg.1 rfl)
        have hbt := hd (show b = true from hb.2 ⟨hg.1 rfl, by omega, by omega⟩)
        have hrt := hd (show (kidsOf l j).map encN = r.map encI by rw [← hr.out, kidsR, hbt.out, kidsN]; rfl)
        have hk0' : ¬ (j : Int) < 0 := by omega
        have hkl' : ¬ (l.length : Int) ≤ (j : Int) := by omega
        clear hb hg hk0 hkl
        go_enter Try.func53, Try.ntmps53
        go_wp2_with fail
        refine (cg.out _ (below_a1 _)).mono ?_
        rintro e w2 ⟨rfl, hb2⟩
        have q := keepCell hb2 (show World.cell? _ ⟨w.heap.size, 0, none⟩ = some (.slice a1 l.length c1) by go_simp)
        have hB := hd ((below_a1 w).next hb2)
        have hz2 : w.heap.size ≤ w2.heap.size := hB.out.size
        clear hb2
        go_wp2_with fail
        refine (ckid.out j _ hB.out hjl hgp.out).mono ?_
        rintro e w3 ⟨v3, rfl, ho3, hb3⟩
        have hB3 := hd (hB.out.next hb3)
        rw [hrt.out] at ho3
        replace ho3 := hd ho3
        clear hb3
        go_wp2_with fail
        go_ret2
        exact ⟨v3, _, by rw [hbt.out]; rfl, (ho3.out.weaken hz2).r, hB3.out⟩
set_option maxHeartbeats 3200000 in
theorem FieldsOf_i (l : List DType) (k : Int) (v : Value) (w : World) (hl : l.length ≤ 1000000000) (hs : ∀ x ∈ l, x.name.size ≤ 1000000000000) (h : Sl w v 6 (l.map DType.enc)) (b : Bool) (hb : b = true ↔ kidP l k) (r : List Int) (hr : kidsR l k b = r) :
    Calls Try.prog 54 #[.agg #[v], .int .i64 k] w (SlbPost 3 1 (r.map encI) b w) := by
  obtain ⟨g, hg⟩ := boolOf (goodP l)
  have cg := hd (fun w' (hbb : Below w.heap.size w w') => GoodSchema_i l v w' (by omega) hs (h.mono hbb) g hg)
  obtain ⟨a1, c1, rfl, hrr⟩ := h
  have hrr := hd hrr
  simp only [List.length_map] at cg ⊢
  replace hr := hd hr
  have hw1 : IntKind.i64.wrap ((l.length : Int) - 1) = (l.length : Int) - 1 := IntWalk.i64_in _ (by omega)
  cases g with
  | false =>
    have hbf := hd (show b = false by rw [← Bool.not_eq_true, hb]; rintro ⟨q, _⟩; exact absurd (hg.2 q) (by simp))
    have hrf := hd (show r = [] by rw [← hr.out, kidsR, hbf.out]; rfl)
    clear hb hg
    go_enter Try.func54, Try.ntmps54
    go_wp2_with fail
    refine (cg.out _ (below_a1 _)).mono ?_
    rintro e w2 ⟨rfl, hb2⟩
    have hB := hd ((below_a1 w).next hb2)
    clear hb2
    go_wp2_with fail
    go_ret2
    exact ⟨_, none, by rw [hbf.out]; rfl, by rw [hrf.out]; exact OwnR.nil, hB.out⟩
  | true =>
    by_cases hkk : 0 ≤ k ∧ k ≤ (l.length : Int) - 1
    · obtain ⟨j, rfl⟩ := Int.eq_ofNat_of_zero_le hkk.1
      have hjl : j < l.length := by omega
      have cw := hd (fun w => within_i (j : Int) 0 ((l.length : Int) - 1) w true (by simpa using hkk))
      have hgp := hg.1 rfl
      have hbt := hd (show b = true from hb.2 ⟨hgp, by omega, by omega⟩)
      have hrt := hd (show (kidsOf l j).map encN = r.map encI by rw [← hr.out, kidsR, hbt.out, kidsN]; rfl)
      have hst := hd (show ([] : List Nat) ++ seg l j 0 = kidsOf l j by
        have := seg_skip (l := l) (a := j) (j + 1) 0 (fun i h1 h2 => by have := good_up hgp i (by omega); omega)
        rw [List.nil_append, this, Nat.zero_add]; rfl)
      obtain ⟨i0, hi, hz0, hz1, hz2⟩ := info_parts infoInt
      have Hi := hd hi; have Hz0 := hd hz0; have Hz1 := hd hz1; have Hz2 := hd hz2
      clear hi hz0 hz1 hz2 hb hg hkk hgp
      go_enter Try.func54, Try.ntmps54
      go_wp2_with fail
      refine (cg.out _ (below_a1 _)).mono ?_
      rintro e w2 ⟨rfl, hb2⟩
      have q := keepCell hb2 (show World.cell? _ ⟨w.heap.size, 0, none⟩ = some (.slice a1 l.length c1) by go_simp)
      have hB := hd ((below_a1 w).next hb2)
      have hz2 : w.heap.size + 1 ≤ w2.heap.size := by have := hb2.size; simpa using this
      clear hb2
      go_wp2_with fail
      refine (cw.out _).mono ?_
      rintro e w' ⟨rfl, rfl⟩
      have qa := fun o => keepCell (below_a1 w2 (a := o)) q
      go_wp2_with fail
      go_loopw [6, 25] (fun s n wr => ∃ (i : Nat) (acc : List Nat), n = .int .i64 i ∧ i ≤ l.length ∧ Hd (acc ++ seg l j i = kidsOf l j) ∧ Hd (acc.length ≤ i) ∧ Hd (Own wr w2.heap.size 3 1 s (acc.map encN)) ∧ Hd (Below w2.heap.size w2 wr)) (fun _ n _ => l.length - (intOf n).toNat)
      case atStart => exact ⟨0, [], rfl, Nat.zero_le _, hst.out, Nat.le_refl _, own_made w2 _ _, below_a1 _⟩
      case round =>
        obtain ⟨i, acc, rfl, hil, hacc, hal, hO, hbl⟩ := hrel
        obtain ⟨wo, rfl⟩ : ∃ wo : World, wo = wr := ⟨_, rfl⟩
        have hbw := hd (hB.out.next hbl.out)
        have hzo := hbl.out.size
        by_cases hlt : i < l.length
        · have hltI : (i : Int) < (l.length : Int) := by omega
          obtain ⟨b1, o1, rfl, C1⟩ := rows_at hrr.out (k := i) (by rw [List.length_map]; exact hlt)
          obtain ⟨f0, f1, f2, f3, f4, f5⟩ := Cells.rowType l i hlt (C1.mono hbw.out)
          have hUi := U_at hlt
          have hseg := seg_cons (a := j) hlt
          rw [hUi] at hseg
          clear hUi
          generalize l[i] = x at *
          have hX := hd (show BoxN (wo.alloc (.cells #[.int .i64 x.kind, .string x.name, .int .i64 x.no, .bool x.must, .int .i64 x.up, .int .i64 x.most] 125)) wo.heap.size x.enc from BoxN.new wo x.enc _)
          have hO2 := hd (hO.out.below (below_a1 wo (a := .cells #[.int .i64 x.kind, .string x.name, .int .i64 x.no, .bool x.must, .int .i64 x.up, .int .i64 x.most] 125)))
          have hbl2 := hd (hbl.out.next (below_a1 wo (a := .cells #[.int .i64 x.kind, .string x.name, .int .i64 x.no, .bool x.must, .int .i64 x.up, .int .i64 x.most] 125)))
          go_upto_region 7 with (fail)
          have p4 := hX.out.1 4 _ rfl
          have hz4 := hbl2.out.size
          generalize wo.alloc (.cells #[.int .i64 x.kind, .string x.name, .int .i64 x.no, .bool x.must, .int .i64 x.up, .int .i64 x.most] 125) = W4 at *
          clear f0 f1 f2 f3 f4 f5 hX
          by_cases hu : x.up = (j : Int)
          · have hacc2 := hd (show (acc ++ [i]) ++ seg l j (i + 1) = kidsOf l j by rw [← hacc.out, hseg, if_pos hu]; simp)
            rw [hu] at p4
            have hal9 := hal.out
            clear hseg hu
            go_wp2_with (at_builtin; refine wpList_appOwn rfl (.tmp 34) (.tmp 36) 80 rfl w2.heap.size 3 i0 _ 1 8 Try.underlying80 Hi.out Hz0.out Hz1.out Hz2.out rfl (by decide) _ (acc.map encN) [encN i] rfl (hO2.out.below (below_a1 _)) _ 1 1 rfl rfl (one_row rfl) (cells_new _ _ _) (encN_one i) (by rw [List.length_map]; omega) (by decide) (by first | omega | exact Nat.le_refl _ | (simp; done) | (simp; omega)) ?_; intro s6 w6 ho6 hg6 hv6; have hB6 := hd ((hbl2.out.next (below_a1 _)).grown hg6 (by have := hbl2.out.size; simp; omega) (fun g hg => (hO2.out.lt g hg).1)); have ho7 := hd (show Own w6 w2.heap.size 3 1 s6 ((acc ++ [i]).map encN) from by rw [List.map_append]; exact ho6); clear hg6 hv6 ho6)
            go_roundw
            case rel => exact ⟨i + 1, acc ++ [i], by go_num, by omega, hacc2, by rw [Hd]; simp; exact hal.out, ho7, hB6⟩
            case measure => simp [intOf]; omega
          · have hub : (x.up == (j : Int)) = false := by simpa using hu
            have hacc2 := hd (show acc ++ seg l j (i + 1) = kidsOf l j by rw [← hacc.out, hseg, if_neg hu])
            clear hu hseg
            have hal2 := hd (show acc.length ≤ i + 1 from Nat.le_succ_of_le hal.out)
            go_wp2_with fail
            go_roundw
            case rel => exact ⟨i + 1, acc, by go_num, by omega, hacc2, hal2, hO2, hbl2⟩
            case measure => simp [intOf]; omega
        · obtain rfl : i = l.length := by omega
          have hltI : ¬ (l.length : Int) < (l.length : Int) := by omega
          have hfin := hd (show acc = kidsOf l j by rw [← hacc.out, seg_end (Nat.le_refl _), List.append_nil])
          go_wp2_with fail
          go_ret2
          exact ⟨_, _, by rw [hbt.out]; rfl, by rw [← hrt.out, ← hfin.out]; exact (hO.out.weaken (by omega)).r, hbw.out⟩
    · have cw := hd (fun w => within_i k 0 ((l.length : Int) - 1) w false (by simp; omega))
      have hbf := hd (show b = false by rw [← Bool.not_eq_true, hb]; rintro ⟨_, q1, q2⟩; exact hkk ⟨q1, by omega⟩)
      have hrf := hd (show r = [] by rw [← hr.out, kidsR, hbf.out]; rfl)
      clear hb hg hkk
      go_enter Try.func54, Try.ntmps54
      go_wp2_with fail
      refine (cg.out _ (below_a1 _)).mono ?_
      rintro e w2 ⟨rfl, hb2⟩
      have q := keepCell hb2 (show World.cell? _ ⟨w.heap.size, 0, none⟩ = some (.slice a1 l.length c1) by go_simp)
      have hB := hd ((below_a1 w).next hb2)
      clear hb2
      go_wp2_with fail
      refine (cw.out _).mono ?_
      rintro e w' ⟨rfl, rfl⟩
      go_wp2_with fail
      go_ret2
      exact ⟨_, none, by rw [hbf.out]; rfl, by rw [hrf.out]; exact OwnR.nil, hB.out⟩
end Go.Proofs.Ytibmhnlmdabliaa
