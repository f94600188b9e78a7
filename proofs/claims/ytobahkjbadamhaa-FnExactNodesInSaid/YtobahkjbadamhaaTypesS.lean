/- The rows of a tree of types behind others: l2Flat of the reference. -/
import Derived.Test.YtobahkjbadamhaaTypes
namespace Go.Proofs.Ytobahkjbadamhaa
open Go.RowKit
set_option linter.unusedVariables false
set_option maxRecDepth 100000
theorem Gr.boxN {w w' : World} {v v' : Value} {b : Nat} {cs : List Value} (h : Gr w v w' v') (hX : BoxN w b cs) (hne : v.ownBlock ≠ some b) : BoxN w' b cs := hX.grown h.1 (fun e => hne e.symm)
set_option maxHeartbeats 3200000 in
theorem flat_s (t : K) : ∀ (r : List Value) (out : List DType) (v : Value) (up : Int) (w : World) (lo hi B : Nat), hi ≤ B → B ≤ w.heap.size → out.length + countK t ≤ 1000000 → RepT w lo hi t r → Own w B 71 6 v (out.map DType.enc) →
    Calls Try.prog 96 #[.agg r.toArray, .int .i64 up, v] w (GrPost B 71 6 ((out ++ rowsK t up out.length).map DType.enc) v w) := by
  refine K.ind2 (P := fun t => ∀ (r : List Value) (out : List DType) (v : Value) (up : Int) (w : World) (lo hi B : Nat), hi ≤ B → B ≤ w.heap.size → out.length + countK t ≤ 1000000 → RepT w lo hi t r → Own w B 71 6 v (out.map DType.enc) →
    Calls Try.prog 96 #[.agg r.toArray, .int .i64 up, v] w (GrPost B 71 6 ((out ++ rowsK t up out.length).map DType.enc) v w)) ?_ t
  intro t ih r out v up w lo hi B hhB hB hc hR hO
  have ih := hd ih
  rw [countK_eq] at hc
  have hend := hd (upTo_end out t up)
  obtain ⟨a, c, rows, rfl, hS, hl, hg⟩ := hR.open
  have hg := hd hg
  have hS := hd hS
  obtain ⟨ao, co, rfl, _⟩ := hO.sl
  simp only [List.length_map] at hO ⊢
  have hO := hd hO
  obtain ⟨i0, hi0, hz0, hz1, hz2⟩ := info_parts infoType
  have Hi := hd hi0; have Hz0 := hd hz0; have Hz1 := hd hz1; have Hz2 := hd hz2
  clear hi0 hz0 hz1 hz2
  have hpl := len_count t.parts
  have hstep := hd (fun j (h : j < t.parts.length) => upTo_step h out ⟨t.of, t.name, t.no, t.must, up, t.most⟩)
  have hlen := hd (upTo_len out ⟨t.of, t.name, t.no, t.must, up, t.most⟩ t.parts)
  have hzero := hd (upTo_zero out ⟨t.of, t.name, t.no, t.must, up, t.most⟩ t.parts)
  have hcl := hd (countL_le t.parts)
  have hone := hd (DType.enc_one [⟨t.of, t.name, t.no, t.must, up, t.most⟩])
  have hsn := hd (map_snocT out ⟨t.of, t.name, t.no, t.must, up, t.most⟩)
  have hctk := hd (fun j (h : j < t.parts.length) => countL_take h)
  clear hR
  generalize t.parts = ps at *
  generalize t.of = o at *
  generalize t.name = nm at *
  generalize t.no = no at *
  generalize t.must = mu at *
  generalize t.most = mo at *
  have hX := hd (show BoxN (w.alloc (.cells #[.int .i64 o, .string nm, .int .i64 no, .bool mu, .int .i64 mo, .slice a ps.length c] 74)) w.heap.size [.int .i64 o, .string nm, .int .i64 no, .bool mu, .int .i64 mo, .slice a ps.length c] from BoxN.new w _ _)
  have hbd := hd (below_a1 w (a := .cells #[.int .i64 o, .string nm, .int .i64 no, .bool mu, .int .i64 mo, .slice a ps.length c] 74))
  have hsW : w.heap.size + 1 ≤ (w.alloc (.cells #[.int .i64 o, .string nm, .int .i64 no, .bool mu, .int .i64 mo, .slice a ps.length c] 74)).heap.size := by simp
  go_enter Try.func96, Try.ntmps96
  go_upto_region 2 with (fail)
  generalize w.alloc (.cells #[.int .i64 o, .string nm, .int .i64 no, .bool mu, .int .i64 mo, .slice a ps.length c] 74) = W at *
  have hO1 := hd (hO.out.below hbd.out)
  have hg1 := hd (fun j (h : j < ps.length) (h' : j < rows.length) => (hg.out j h h').below (by omega) hbd.out)
  have hS1 := hd (hS.out.same (Same.below hbd.out (by omega)) (Nat.le_refl _) (Nat.le_refl _) : RSl W lo hi _ _)
  have hB1 : B ≤ W.heap.size := by omega
  have hG1 := hd (Gr.of_below (v := .slice ao out.length co) hbd.out)
  have hno := hd (hO.out.no (b := w.heap.size) (.inr (Nat.le_refl _)))
  have x0 := hX.out.1 0 _ rfl; have x1 := hX.out.1 1 _ rfl; have x2 := hX.out.1 2 _ rfl; have x3 := hX.out.1 3 _ rfl; have x4 := hX.out.1 4 _ rfl; have x5 := hX.out.1 5 _ rfl
  clear hO hg hS hB hbd
  go_wp2_with (at_builtin; refine wpList_appOwn rfl (.tmp 12) (.tmp 25) 26 rfl B 71 i0 _ 6 56 Try.underlying26 Hi.out Hz0.out Hz1.out Hz2.out rfl (by decide) _ (out.map DType.enc) [DType.enc ⟨o, nm, no, mu, up, mo⟩] rfl (hO1.out.below (below_a1 _)) _ 1 1 rfl rfl (one_row rfl) (cells_new _ _ _) hone.out (by simp only [List.length_map]; omega) (by decide) (by first | omega | exact Nat.le_refl _ | (simp; done) | (simp; omega)) ?_; intro v6 w6 ho6 hga hva; have hG6 := hd ((Gr.of_below (v := .slice ao out.length co) (below_a1 W)).trans (Gr.app hga hva)); rw [hsn.out, ← hzero.out] at ho6; have hBz := hd (hG6.out.below hB1 (fun g hg => (hO1.out.lt g hg).1)); have hX6 := hd (hG6.out.boxN hX.out hno.out); have y5 := hX6.out.1 5 _ rfl; replace ho6 := hd ho6; clear hga hva x0 x1 x2 x3 x4 x5)
  have hGG := hd (hG1.out.trans hG6.out)
  have hS6 := hd (hS1.out.same (Same.belowB hBz.out hhB) (Nat.le_refl _) (Nat.le_refl _) : RSl w6 lo hi _ _)
  have hR6 := hd (fun j (h : j < ps.length) (h' : j < rows.length) => (hg1.out j h h').same (Same.belowB hBz.out hhB) (Nat.le_refl _) (Nat.le_refl _) ps[j] rows[j])
  have hz6 : B ≤ w6.heap.size := Nat.le_trans hB1 hG6.out.1.size
  clear hO1 hg1 hS1 hG1 hG6 hBz
  go_wp2_with fail
  go_loopw [2, 30] (fun s n wr => ∃ (sv : Value) (j : Nat), sv = s ∧ j ≤ ps.length ∧ n = .int .i64 j ∧ Hd (Own wr B 71 6 s ((upTo out ⟨o, nm, no, mu, up, mo⟩ ps j).map DType.enc)) ∧ Hd (Gr w6 v6 wr s)) (fun _ n _ => ps.length - (intOf n).toNat)
  case atStart => exact ⟨_, 0, rfl, Nat.zero_le _, rfl, ho6.out, Gr.refl _ _⟩
  case round =>
    obtain ⟨s, j, rfl, hj, rfl, hOr, hGr⟩ := hrel
    obtain ⟨wo, rfl⟩ : ∃ wo : World, wo = wr := ⟨_, rfl⟩
    have hBr := hd (hGr.out.below hz6 (fun g hg => (ho6.out.lt g hg).1))
    have hzr : B ≤ wo.heap.size := Nat.le_trans hz6 hGr.out.1.size
    by_cases hlt : j < ps.length
    · have hltI : (j : Int) < (ps.length : Int) := by omega
      obtain ⟨b1, rfl, hb1, hc1⟩ := hS6.out.at (j := j) (by omega)
      have hp := (hR6.out j hlt (by omega)).same (Same.belowB hBr.out hhB) (Nat.le_refl _) (Nat.le_refl _) _ _
      obtain ⟨ak, ck, rowsk, hrk, _⟩ := hp.open
      have hck := hc1 j (by omega)
      have hlj := hlen.out j
      have hctj := hctk.out j hlt
      have hcle := hcl.out (j + 1)
      have ci := hd (fun w' (hb : Below wo.heap.size wo w') => ih.out ps[j] (List.getElem_mem hlt) rows[j] (upTo out ⟨o, nm, no, mu, up, mo⟩ ps j) s out.length w' lo hi B hhB (Nat.le_trans hzr hb.size) (by omega) (hp.below (by omega) hb) (hOr.out.below hb))
      rw [← hstep.out j hlt] at ci
      rw [hrk] at hck ci
      have kb := fun o u (h : w6.cell? ⟨b1, o, none⟩ = some u) => (show wo.cell? ⟨b1, o, none⟩ = some u from by rw [hBr.out.cell (p := ⟨b1, o, none⟩) (by show b1 < B; omega)]; exact h)
      have d0 := kb _ _ (show w6.cell? ⟨b1, j * 6, none⟩ = _ from hck 0 _ rfl)
      have d1 := kb _ _ (hck 1 _ rfl)
      have d2 := kb _ _ (hck 2 _ rfl)
      have d3 := kb _ _ (hck 3 _ rfl)
      have d4 := kb _ _ (hck 4 _ rfl)
      have d5 := kb _ _ (hck 5 _ rfl)
      have hgb := hd (fun o => Gr.of_below (v := s) (below_a1 wo (a := o)))
      generalize ps[j] = p at *
      clear hc1 hrk hck hp kb hlj hctj hcle
      go_wp2_with fail
      refine (ci.out _ (below_a1 wo)).mono ?_
      rintro e w8 ⟨s8, rfl, ho8, hg8⟩
      have hG8 := hd (hGr.out.trans ((hgb.out _).trans hg8))
      replace ho8 := hd ho8
      clear hg8
      go_wp2_with fail
      go_roundw
      case rel => exact ⟨s8, j + 1, rfl, by omega, by go_num, ho8, hG8⟩
      case measure => simp [intOf]; omega
    · obtain rfl : j = ps.length := by omega
      have hltI : ¬ (ps.length : Int) < (ps.length : Int) := by omega
      rw [hend.out] at hOr
      go_wp2_with fail
      go_ret
      exact ⟨s, rfl, by first | exact hOr.out | (rw [← List.map_append]; exact hOr.out), hGG.out.trans hGr.out⟩
end Go.Proofs.Ytobahkjbadamhaa
