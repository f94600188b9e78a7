/- BothFilters of the program. -/
import Derived.Test.YtibmhnlmdabliaaBothM
namespace Go.Proofs.Ytibmhnlmdabliaa
open Go.RowKit
set_option linter.unusedVariables false
set_option maxRecDepth 100000
set_option maxHeartbeats 6400000 in
theorem BothFilters_i (f g : List DWant) (v u : Value) (w : World) (hl : f.length ≤ 1000000000) (hm : g.length ≤ 1000000000) (h : Sl w v 6 (f.map DWant.enc)) (hu : Sl w u 6 (g.map DWant.enc)) (b : Bool) (hb : bothB f g = b) (r : List DWant) (hr : bothR f g = r) :
    Calls Try.prog 18 #[.agg #[v], .agg #[u]] w (AggbPost 91 6 (r.map DWant.enc) b w) := by
  obtain ⟨g1, hg1⟩ : ∃ z, goodFilter f = z := ⟨_, rfl⟩
  obtain ⟨g2, hg2⟩ : ∃ z, goodFilter g = z := ⟨_, rfl⟩
  have c1 := hd (fun v w h => GoodFilter_i f v w (by omega) h g1 hg1)
  have c2 := hd (fun v w h => GoodFilter_i g v w (by omega) h g2 hg2)
  have hS := hd h
  have hT := hd hu
  obtain ⟨a0, k0, rfl, hff⟩ := h
  obtain ⟨a1, k1, rfl, hrr⟩ := hu
  replace hrr := hd hrr
  replace hff := hd hff
  simp only [List.length_map] at hS hT ⊢
  have hbg := hd (show b = (g1 && g2 && decide (f.length + g.length + 1 ≤ 20)) by rw [← hb, bothB, hg1, hg2])
  have hrg := hd (show r = if b then bothL f g else [] by rw [← hr, bothR, hb])
  clear hb hr
  cases g1 with
  | false =>
    have hbf := hd (show b = false by rw [hbg.out]; rfl)
    have hrf := hd (show r = [] by rw [hrg.out, hbf.out]; rfl)
    go_enter Try.func18, Try.ntmps18
    go_wp2_with fail
    refine (c1.out _ _ (hS.out.mono (below_a3 _))).mono ?_
    rintro e w2 ⟨rfl, hb2⟩
    have hx2 := Box1.below (b := w.heap.size + 1 + 1) (v := .slice none 0 0) ⟨by go_simp, by go_simp⟩ hb2
    have Q1 := hx2.1; have Q2 := hx2.2
    have hB := hd ((below_a3 w).next hb2)
    clear hb2 hx2
    go_wp2_with fail
    refine bodyPost_ret (v := .tuple #[.agg #[.slice none 0 0], .bool false]) (by simp [results, Try.results18, go_sem, Q1]) rfl ⟨_, none, by rw [hbf.out], by rw [hrf.out]; exact OwnR.nil, ?_⟩
    exact hB.out.setCell (by simp; omega) _
  | true =>
    obtain ⟨hn1, hn2⟩ := good_len hg1
    cases g2 with
    | false =>
      have hbf := hd (show b = false by rw [hbg.out]; rfl)
      have hrf := hd (show r = [] by rw [hrg.out, hbf.out]; rfl)
      go_enter Try.func18, Try.ntmps18
      go_wp2_with fail
      refine (c1.out _ _ (hS.out.mono (below_a3 _))).mono ?_
      rintro e w2 ⟨rfl, hb2⟩
      have hx2 := hd (Box1.below (b := w.heap.size + 1 + 1) (v := .slice none 0 0) ⟨by go_simp, by go_simp⟩ hb2)
      have q1 := keepCell hb2 (show World.cell? _ ⟨w.heap.size + 1, 0, none⟩ = some (.slice a1 g.length k1) by go_simp)
      have hB := hd ((below_a3 w).next hb2)
      clear hb2
      go_wp2_with fail
      refine (c2.out _ _ (hT.out.mono hB.out)).mono ?_
      rintro e w3 ⟨rfl, hb3⟩
      have hx3 := hx2.out.below hb3
      have Q1 := hx3.1; have Q2 := hx3.2
      have hB3 := hd (hB.out.next hb3)
      clear hb3 hx3
      go_wp2_with fail
      refine bodyPost_ret (v := .tuple #[.agg #[.slice none 0 0], .bool false]) (by simp [results, Try.results18, go_sem, Q1]) rfl ⟨_, none, by rw [hbf.out], by rw [hrf.out]; exact OwnR.nil, ?_⟩
      exact hB3.out.setCell (by simp; omega) _
    | true =>
      obtain ⟨hm1, hm2⟩ := good_len hg2
      have hok := hd (good_all hg2)
      have hn1I : (1 : Int) ≤ f.length := by omega
      obtain ⟨i0, hi, hz0, hz1, hz2⟩ := info_parts infoWant
      have Hi := hd hi; have Hz0 := hd hz0; have Hz1 := hd hz1; have Hz2 := hd hz2
      clear hi hz0 hz1 hz2
      go_enter Try.func18, Try.ntmps18
      go_wp2_with fail
      refine (c1.out _ _ (hS.out.mono (below_a3 _))).mono ?_
      rintro e w2 ⟨rfl, hb2⟩
      have hx2 := hd (Box1.below (b := w.heap.size + 1 + 1) (v := .slice none 0 0) ⟨by go_simp, by go_simp⟩ hb2)
      have q0 := keepCell hb2 (show World.cell? _ ⟨w.heap.size, 0, none⟩ = some (.slice a0 f.length k0) by go_simp)
      have q1 := keepCell hb2 (show World.cell? _ ⟨w.heap.size + 1, 0, none⟩ = some (.slice a1 g.length k1) by go_simp)
      have hB := hd ((below_a3 w).next hb2)
      have hz2 : w.heap.size + 1 + 1 < w2.heap.size := by have := hb2.size; simp at this; omega
      clear hb2
      go_wp2_with fail
      refine (c2.out _ _ (hT.out.mono hB.out)).mono ?_
      rintro e w3 ⟨rfl, hb3⟩
      have hx3 := hd (hx2.out.below hb3)
      have p0 := keepCell hb3 q0
      have p1 := keepCell hb3 q1
      have hB3 := hd (hB.out.next hb3)
      have hz3 : w.heap.size + 1 + 1 < w3.heap.size := Nat.lt_of_lt_of_le hz2 hb3.size
      clear hb3 q0 q1
      go_wp2_with fail
      go_region_held3 (fun w' => w'.cell? ⟨w.heap.size, 0, none⟩ = some (.slice a0 f.length k0)) (first | go_keep | exact keepCell hbc (by assumption) | (go_split_ands; exact keepCell hbc (by assumption)))
        (first | (go_at_call 66; refine (clone_Want f _ _ hl (hS.out.mono hB3.out.drew)).mono ?_; rintro e w4 ⟨v4, rfl, ho4, hbc⟩))
      have hoS := hd (ho4.weaken (B' := w3.heap.size) (Nat.le_refl _))
      have hbS := hd ((Below.refl _ w3).drew.next hbc)
      have hB3' := hB3
      have p1' := keepCell hbS.out p1
      clear ho4 hbc
      go_wp2_with fail
      go_loopw [6, 28] (fun o i wr => ∃ j : Nat, j ≤ g.length ∧ i = .int .i64 j ∧ Hd (Own wr w3.heap.size 91 6 o ((bothUp f g j).map DWant.enc)) ∧ Hd (Below w3.heap.size w3 wr)) (fun _ i _ => g.length - (intOf i).toNat)
      case atStart => exact ⟨0, Nat.zero_le _, rfl, by rw [show bothUp f g 0 = f by simp [bothUp]]; exact hoS.out, hbS.out⟩
      case round =>
        obtain ⟨j, hj, rfl, hown, hbl⟩ := hrel
        obtain ⟨wo, rfl⟩ : ∃ wo : World, wo = wr := ⟨_, rfl⟩
        have hbl0 := hd (hB3'.out.next hbl.out)
        have hul := bothUp_len f g j hj
        by_cases hlt : j < g.length
        · have hltI : (j : Int) < (g.length : Int) := by omega
          obtain ⟨b1, o1, rfl, C1⟩ := rows_at hrr.out (k := j) (by rw [List.length_map]; exact hlt)
          obtain ⟨f0, f1, f2, f3, f4, f5⟩ := Cells.rowWant g j hlt (C1.mono hbl0.out)
          have hwc := hd (want_cases (hok.out j hlt))
          have hup := hd (bothUp_succ (f := f) hlt)
          have hul2 : (bothUp f g j).length ≤ 40 := by omega
          generalize g[j] = x at *
          rcases hwc.out with ⟨hk, ha, hb, hc⟩ | ⟨hk, ha, hb, hc⟩ | ⟨hk, ha, hb, hc⟩ | ⟨hk, ha, hb⟩
          · have hge : (6 : Int) ≤ x.kind := by omega
            have e6 : (x.kind == 6) = true := by simp; omega
            have e7 : (x.kind == 7) = false := by simp; omega
            have hsh := hd (show bothUp f g (j + 1) = bothUp f g j ++ [⟨6, x.no, x.num, x.text, x.a + (f.length : Int), x.b + (f.length : Int)⟩] by rw [hup.out, shiftW, if_pos hge, if_pos (show x.kind = 6 ∨ x.kind = 7 by omega), hk])
            go_upto_region 11 with (fail)
            have hX := hd (show BoxN (wo.alloc (.cells #[.int .i64 6, .int .i64 x.no, .int .i64 x.num, .string x.text, .int .i64 (x.a + (f.length : Int)), .int .i64 (x.b + (f.length : Int))] 91)) wo.heap.size [.int .i64 6, .int .i64 x.no, .int .i64 x.num, .string x.text, .int .i64 (x.a + (f.length : Int)), .int .i64 (x.b + (f.length : Int))] from BoxN.new wo [.int .i64 6, .int .i64 x.no, .int .i64 x.num, .string x.text, .int .i64 (x.a + (f.length : Int)), .int .i64 (x.b + (f.length : Int))] _)
            have ho3 := hd (hown.out.below (below_a1 wo (a := (.cells #[.int .i64 6, .int .i64 x.no, .int .i64 x.num, .string x.text, .int .i64 (x.a + (f.length : Int)), .int .i64 (x.b + (f.length : Int))] 91))))
            have hB3 := hd (hbl.out.next (below_a1 wo (a := (.cells #[.int .i64 6, .int .i64 x.no, .int .i64 x.num, .string x.text, .int .i64 (x.a + (f.length : Int)), .int .i64 (x.b + (f.length : Int))] 91))))
            have hs3 := hB3.out.size
            have y0 := hX.out.1 0 _ rfl; have y1 := hX.out.1 1 _ rfl; have y2 := hX.out.1 2 _ rfl; have y3 := hX.out.1 3 _ rfl; have y4 := hX.out.1 4 _ rfl; have y5 := hX.out.1 5 _ rfl
            generalize wo.alloc (.cells #[.int .i64 6, .int .i64 x.no, .int .i64 x.num, .string x.text, .int .i64 (x.a + (f.length : Int)), .int .i64 (x.b + (f.length : Int))] 91) = w4 at *
            go_wp2_with (at_builtin; refine wpList_appOwn rfl (.tmp 53) (.tmp 55) 26 rfl w3.heap.size 91 i0 _ 6 56 Try.underlying26 Hi.out Hz0.out Hz1.out Hz2.out rfl (by decide) _ ((bothUp f g j).map DWant.enc) [DWant.enc ⟨6, x.no, x.num, x.text, x.a + (f.length : Int), x.b + (f.length : Int)⟩] rfl (ho3.out.below (below_a1 _)) _ 1 1 rfl rfl (one_row rfl) (cells_new _ _ _) (DWant.enc_one [⟨6, x.no, x.num, x.text, x.a + (f.length : Int), x.b + (f.length : Int)⟩]) (by simp only [List.length_map]; omega) (by decide) (by first | omega | exact Nat.le_refl _ | (simp; done) | (simp; omega)) ?_; intro v5 w5 ho5 hga hva; have hB5 := hd ((hB3.out.next (below_a1 _)).grown hga (by first | omega | exact Nat.le_refl _ | (simp; done) | (simp; omega)) (fun g hg => (ho3.out.lt g hg).1)); replace ho5 := hd (own_snoc ho5); clear hga hva)
            rw [← hsh.out] at ho5
            go_roundw
            case rel => exact ⟨j + 1, by omega, by go_num, ho5, hB5⟩
            case measure => simp [intOf]; omega
          · have hge : (6 : Int) ≤ x.kind := by omega
            have e6 : (x.kind == 6) = false := by simp; omega
            have e7 : (x.kind == 7) = true := by simp; omega
            have hsh := hd (show bothUp f g (j + 1) = bothUp f g j ++ [⟨7, x.no, x.num, x.text, x.a + (f.length : Int), x.b + (f.length : Int)⟩] by rw [hup.out, shiftW, if_pos hge, if_pos (show x.kind = 6 ∨ x.kind = 7 by omega), hk])
            go_upto_region 11 with (fail)
            have hX := hd (show BoxN (wo.alloc (.cells #[.int .i64 7, .int .i64 x.no, .int .i64 x.num, .string x.text, .int .i64 (x.a + (f.length : Int)), .int .i64 (x.b + (f.length : Int))] 91)) wo.heap.size [.int .i64 7, .int .i64 x.no, .int .i64 x.num, .string x.text, .int .i64 (x.a + (f.length : Int)), .int .i64 (x.b + (f.length : Int))] from BoxN.new wo [.int .i64 7, .int .i64 x.no, .int .i64 x.num, .string x.text, .int .i64 (x.a + (f.length : Int)), .int .i64 (x.b + (f.length : Int))] _)
            have ho3 := hd (hown.out.below (below_a1 wo (a := (.cells #[.int .i64 7, .int .i64 x.no, .int .i64 x.num, .string x.text, .int .i64 (x.a + (f.length : Int)), .int .i64 (x.b + (f.length : Int))] 91))))
            have hB3 := hd (hbl.out.next (below_a1 wo (a := (.cells #[.int .i64 7, .int .i64 x.no, .int .i64 x.num, .string x.text, .int .i64 (x.a + (f.length : Int)), .int .i64 (x.b + (f.length : Int))] 91))))
            have hs3 := hB3.out.size
            have y0 := hX.out.1 0 _ rfl; have y1 := hX.out.1 1 _ rfl; have y2 := hX.out.1 2 _ rfl; have y3 := hX.out.1 3 _ rfl; have y4 := hX.out.1 4 _ rfl; have y5 := hX.out.1 5 _ rfl
            generalize wo.alloc (.cells #[.int .i64 7, .int .i64 x.no, .int .i64 x.num, .string x.text, .int .i64 (x.a + (f.length : Int)), .int .i64 (x.b + (f.length : Int))] 91) = w4 at *
            go_wp2_with (at_builtin; refine wpList_appOwn rfl (.tmp 53) (.tmp 55) 26 rfl w3.heap.size 91 i0 _ 6 56 Try.underlying26 Hi.out Hz0.out Hz1.out Hz2.out rfl (by decide) _ ((bothUp f g j).map DWant.enc) [DWant.enc ⟨7, x.no, x.num, x.text, x.a + (f.length : Int), x.b + (f.length : Int)⟩] rfl (ho3.out.below (below_a1 _)) _ 1 1 rfl rfl (one_row rfl) (cells_new _ _ _) (DWant.enc_one [⟨7, x.no, x.num, x.text, x.a + (f.length : Int), x.b + (f.length : Int)⟩]) (by simp only [List.length_map]; omega) (by decide) (by first | omega | exact Nat.le_refl _ | (simp; done) | (simp; omega)) ?_; intro v5 w5 ho5 hga hva; have hB5 := hd ((hB3.out.next (below_a1 _)).grown hga (by first | omega | exact Nat.le_refl _ | (simp; done) | (simp; omega)) (fun g hg => (ho3.out.lt g hg).1)); replace ho5 := hd (own_snoc ho5); clear hga hva)
            rw [← hsh.out] at ho5
            go_roundw
            case rel => exact ⟨j + 1, by omega, by go_num, ho5, hB5⟩
            case measure => simp [intOf]; omega
          · have hge : (6 : Int) ≤ x.kind := by omega
            have e6 : (x.kind == 6) = false := by simp; omega
            have e7 : (x.kind == 7) = false := by simp; omega
            have hsh := hd (show bothUp f g (j + 1) = bothUp f g j ++ [⟨8, x.no, x.num, x.text, x.a + (f.length : Int), 0⟩] by rw [hup.out, shiftW, if_pos hge, if_neg (show ¬ (x.kind = 6 ∨ x.kind = 7) by omega), hk, hc])
            go_upto_region 11 with (fail)
            have hX := hd (show BoxN (wo.alloc (.cells #[.int .i64 8, .int .i64 x.no, .int .i64 x.num, .string x.text, .int .i64 (x.a + (f.length : Int)), .int .i64 0] 91)) wo.heap.size [.int .i64 8, .int .i64 x.no, .int .i64 x.num, .string x.text, .int .i64 (x.a + (f.length : Int)), .int .i64 0] from BoxN.new wo [.int .i64 8, .int .i64 x.no, .int .i64 x.num, .string x.text, .int .i64 (x.a + (f.length : Int)), .int .i64 0] _)
            have ho3 := hd (hown.out.below (below_a1 wo (a := (.cells #[.int .i64 8, .int .i64 x.no, .int .i64 x.num, .string x.text, .int .i64 (x.a + (f.length : Int)), .int .i64 0] 91))))
            have hB3 := hd (hbl.out.next (below_a1 wo (a := (.cells #[.int .i64 8, .int .i64 x.no, .int .i64 x.num, .string x.text, .int .i64 (x.a + (f.length : Int)), .int .i64 0] 91))))
            have hs3 := hB3.out.size
            have y0 := hX.out.1 0 _ rfl; have y1 := hX.out.1 1 _ rfl; have y2 := hX.out.1 2 _ rfl; have y3 := hX.out.1 3 _ rfl; have y4 := hX.out.1 4 _ rfl; have y5 := hX.out.1 5 _ rfl
            generalize wo.alloc (.cells #[.int .i64 8, .int .i64 x.no, .int .i64 x.num, .string x.text, .int .i64 (x.a + (f.length : Int)), .int .i64 0] 91) = w4 at *
            go_wp2_with (at_builtin; refine wpList_appOwn rfl (.tmp 53) (.tmp 55) 26 rfl w3.heap.size 91 i0 _ 6 56 Try.underlying26 Hi.out Hz0.out Hz1.out Hz2.out rfl (by decide) _ ((bothUp f g j).map DWant.enc) [DWant.enc ⟨8, x.no, x.num, x.text, x.a + (f.length : Int), 0⟩] rfl (ho3.out.below (below_a1 _)) _ 1 1 rfl rfl (one_row rfl) (cells_new _ _ _) (DWant.enc_one [⟨8, x.no, x.num, x.text, x.a + (f.length : Int), 0⟩]) (by simp only [List.length_map]; omega) (by decide) (by first | omega | exact Nat.le_refl _ | (simp; done) | (simp; omega)) ?_; intro v5 w5 ho5 hga hva; have hB5 := hd ((hB3.out.next (below_a1 _)).grown hga (by first | omega | exact Nat.le_refl _ | (simp; done) | (simp; omega)) (fun g hg => (ho3.out.lt g hg).1)); replace ho5 := hd (own_snoc ho5); clear hga hva)
            rw [← hsh.out] at ho5
            go_roundw
            case rel => exact ⟨j + 1, by omega, by go_num, ho5, hB5⟩
            case measure => simp [intOf]; omega
          · have hge : ¬ (6 : Int) ≤ x.kind := by omega
            have e6 : (x.kind == 6) = false := by simp; omega
            have e7 : (x.kind == 7) = false := by simp; omega
            have hsh := hd (show bothUp f g (j + 1) = bothUp f g j ++ [⟨x.kind, x.no, x.num, x.text, 0, 0⟩] by rw [hup.out, shiftW, if_neg hge, if_neg (show ¬ (x.kind = 6 ∨ x.kind = 7) by omega), ha, hb])
            go_upto_region 11 with (fail)
            have hX := hd (show BoxN (wo.alloc (.cells #[.int .i64 x.kind, .int .i64 x.no, .int .i64 x.num, .string x.text, .int .i64 0, .int .i64 0] 91)) wo.heap.size [.int .i64 x.kind, .int .i64 x.no, .int .i64 x.num, .string x.text, .int .i64 0, .int .i64 0] from BoxN.new wo [.int .i64 x.kind, .int .i64 x.no, .int .i64 x.num, .string x.text, .int .i64 0, .int .i64 0] _)
            have ho3 := hd (hown.out.below (below_a1 wo (a := (.cells #[.int .i64 x.kind, .int .i64 x.no, .int .i64 x.num, .string x.text, .int .i64 0, .int .i64 0] 91))))
            have hB3 := hd (hbl.out.next (below_a1 wo (a := (.cells #[.int .i64 x.kind, .int .i64 x.no, .int .i64 x.num, .string x.text, .int .i64 0, .int .i64 0] 91))))
            have hs3 := hB3.out.size
            have y0 := hX.out.1 0 _ rfl; have y1 := hX.out.1 1 _ rfl; have y2 := hX.out.1 2 _ rfl; have y3 := hX.out.1 3 _ rfl; have y4 := hX.out.1 4 _ rfl; have y5 := hX.out.1 5 _ rfl
            generalize wo.alloc (.cells #[.int .i64 x.kind, .int .i64 x.no, .int .i64 x.num, .string x.text, .int .i64 0, .int .i64 0] 91) = w4 at *
            go_wp2_with (at_builtin; refine wpList_appOwn rfl (.tmp 53) (.tmp 55) 26 rfl w3.heap.size 91 i0 _ 6 56 Try.underlying26 Hi.out Hz0.out Hz1.out Hz2.out rfl (by decide) _ ((bothUp f g j).map DWant.enc) [DWant.enc ⟨x.kind, x.no, x.num, x.text, 0, 0⟩] rfl (ho3.out.below (below_a1 _)) _ 1 1 rfl rfl (one_row rfl) (cells_new _ _ _) (DWant.enc_one [⟨x.kind, x.no, x.num, x.text, 0, 0⟩]) (by simp only [List.length_map]; omega) (by decide) (by first | omega | exact Nat.le_refl _ | (simp; done) | (simp; omega)) ?_; intro v5 w5 ho5 hga hva; have hB5 := hd ((hB3.out.next (below_a1 _)).grown hga (by first | omega | exact Nat.le_refl _ | (simp; done) | (simp; omega)) (fun g hg => (ho3.out.lt g hg).1)); replace ho5 := hd (own_snoc ho5); clear hga hva)
            rw [← hsh.out] at ho5
            go_roundw
            case rel => exact ⟨j + 1, by omega, by go_num, ho5, hB5⟩
            case measure => simp [intOf]; omega
        · obtain rfl : j = g.length := by omega
          have hltI : ¬ (g.length : Int) < (g.length : Int) := by omega
          obtain ⟨N, hN⟩ : ∃ N, f.length + g.length = N := ⟨_, rfl⟩
          have hlU : ((bothUp f g g.length).map DWant.enc).length = N := by rw [List.length_map, hul, hN]
          have hone := hd (DWant.enc_one [wAnd ((f.length : Int) - 1) ((N : Int) - 1)])
          have hrows := hd (show (bothUp f g g.length).map DWant.enc ++ [(wAnd ((f.length : Int) - 1) ((N : Int) - 1)).enc] = (bothL f g).map DWant.enc by rw [← hN, bothL]; simp)
          have hlen := hd (show ((bothL f g).map DWant.enc).length = N + 1 by rw [← hrows.out, List.length_append, hlU]; rfl)
          have hN40 : N ≤ 40 := by omega
          have hN1 : (1 : Int) ≤ (N : Int) := by omega
          obtain ⟨av, kv, hav, _⟩ := hown.out.sl
          rw [hlU] at hav
          subst hav
          have hxo := hd (hx3.out.below hbl.out)
          have hlo := hbl.out.size
          replace hlU := hd hlU
          have hNN := hd hN
          clear hN hul
          by_cases hn3 : N + 1 ≤ 20
          · have hF := hd (show decide (N + 1 ≤ 20) = true by simpa using hn3)
            have hbt := hd (show b = true by rw [hbg.out, hNN.out]; simpa using hn3)
            have hrt := hd (show r = bothL f g by rw [hrg.out, hbt.out]; rfl)
            go_wp2_with (first
              | (at_builtin; refine wpList_appOwn rfl (.tmp 58) (.tmp 65) 26 rfl w3.heap.size 91 i0 _ 6 56 Try.underlying26 Hi.out Hz0.out Hz1.out Hz2.out rfl (by decide) _ ((bothUp f g g.length).map DWant.enc) [(wAnd ((f.length : Int) - 1) ((N : Int) - 1)).enc] rfl (hown.out.below (below_a1 _)) _ 1 1 rfl rfl (one_row rfl) (cells_new _ _ _) hone.out (by rw [hlU.out]; omega) (by decide) (by first | omega | exact Nat.le_refl _ | (simp; done) | (simp; omega)) ?_; intro v5 w5 ho5 hg5 hv5; have hx5 := hd ((hxo.out.below (below_a1 _)).grown hg5 (by intro e; have := (hown.out.lt _ e.symm).1; omega)); have hB5 := hd ((hbl0.out.next (below_a1 _)).grown hg5 (by have := hbl0.out.size; simp; omega) (fun z hz => by have := (hown.out.lt z hz).1; omega)); rw [hrows.out] at ho5; obtain ⟨a5, c5, rfl, _⟩ := ho5.sl; rw [hlen.out] at ho5 ⊢; replace ho5 := hd ho5; clear hg5 hv5)
              | (go_at_call 67; refine (filterOf_i _ (N + 1) _ _ (by omega) true hF.out).mono ?_; rintro e w6 ⟨rfl, hb6⟩; have hx6 := hx5.out.below hb6; have hB6 := hd (hB5.out.next hb6); have ho6 := hd (ho5.out.below hb6); have Q1 := hx6.1; have Q2 := hx6.2; clear hb6 hx6))
            refine bodyPost_ret (v := .tuple #[.agg #[.slice a5 (N + 1) c5], .bool true]) (by simp [results, Try.results18, go_sem, Q1]) rfl ⟨.slice a5 (N + 1) c5, (Value.slice a5 (N + 1) c5).ownBlock, by rw [hbt.out], ?_, ?_⟩
            · rw [hrt.out]; exact (((ho6.out.weaken (by omega)).kept (grownBy_setCell _ _ _) (own_ne (B := w.heap.size + 1 + 1) (fun k hk => by have := (ho6.out.lt k hk).1; omega) (Nat.le_refl _))).r)
            · exact hB6.out.setCell (by simp; omega) _
          · have hF := hd (show decide (N + 1 ≤ 20) = false by simpa using hn3)
            have hbt := hd (show b = false by rw [hbg.out, hNN.out]; simpa using hn3)
            have hrt := hd (show r = [] by rw [hrg.out, hbt.out]; rfl)
            go_wp2_with (first
              | (at_builtin; refine wpList_appOwn rfl (.tmp 58) (.tmp 65) 26 rfl w3.heap.size 91 i0 _ 6 56 Try.underlying26 Hi.out Hz0.out Hz1.out Hz2.out rfl (by decide) _ ((bothUp f g g.length).map DWant.enc) [(wAnd ((f.length : Int) - 1) ((N : Int) - 1)).enc] rfl (hown.out.below (below_a1 _)) _ 1 1 rfl rfl (one_row rfl) (cells_new _ _ _) hone.out (by rw [hlU.out]; omega) (by decide) (by first | omega | exact Nat.le_refl _ | (simp; done) | (simp; omega)) ?_; intro v5 w5 ho5 hg5 hv5; have hx5 := hd ((hxo.out.below (below_a1 _)).grown hg5 (by intro e; have := (hown.out.lt _ e.symm).1; omega)); have hB5 := hd ((hbl0.out.next (below_a1 _)).grown hg5 (by have := hbl0.out.size; simp; omega) (fun z hz => by have := (hown.out.lt z hz).1; omega)); rw [hrows.out] at ho5; obtain ⟨a5, c5, rfl, _⟩ := ho5.sl; rw [hlen.out] at ho5 ⊢; replace ho5 := hd ho5; clear hg5 hv5)
              | (go_at_call 67; refine (filterOf_i _ (N + 1) _ _ (by omega) false hF.out).mono ?_; rintro e w6 ⟨rfl, hb6⟩; have hx6 := hx5.out.below hb6; have hB6 := hd (hB5.out.next hb6); have ho6 := hd (ho5.out.below hb6); have Q1 := hx6.1; have Q2 := hx6.2; clear hb6 hx6))
            refine bodyPost_ret (v := .tuple #[.agg #[.slice none 0 0], .bool false]) (by simp [results, Try.results18, go_sem, Q1]) rfl ⟨.slice none 0 0, none, by rw [hbt.out], by rw [hrt.out]; exact OwnR.nil, ?_⟩
            exact hB6.out.setCell (by simp; omega) _
end Go.Proofs.Ytibmhnlmdabliaa
