/- The nodes of the least value of a type behind others: least of the program. -/
import Derived.Test.YtobahkjbadamhaaFitMM
namespace Go.Proofs.Ytobahkjbadamhaa
open Go.RowKit
set_option linter.unusedVariables false
set_option maxRecDepth 100000
set_option maxHeartbeats 3200000 in
theorem least_i (t : K) : ∀ (vt : Value) (out : List DNode) (v : Value) (no up : Int) (w : World) (lo hi B : Nat), hi ≤ B → B ≤ w.heap.size → out.length + countK t ≤ 1000000 → RepP w lo hi t vt → Own w B 113 5 v (out.map DNode.enc) →
    Calls Try.prog 67 #[vt, v, .int .i64 no, .int .i64 up] w (GrPost B 113 5 ((out ++ rowsV (leastK t no) up out.length).map DNode.enc) v w) := by
  refine K.ind2 (P := fun t => ∀ (vt : Value) (out : List DNode) (v : Value) (no up : Int) (w : World) (lo hi B : Nat), hi ≤ B → B ≤ w.heap.size → out.length + countK t ≤ 1000000 → RepP w lo hi t vt → Own w B 113 5 v (out.map DNode.enc) →
    Calls Try.prog 67 #[vt, v, .int .i64 no, .int .i64 up] w (GrPost B 113 5 ((out ++ rowsV (leastK t no) up out.length).map DNode.enc) v w)) ?_ t
  intro t ih vt out v no up w lo hi B hhB hB hc hR hO
  have ih := hd ih
  rw [countK_eq] at hc
  have hend := hd (upToV_end out (leastK t no) up)
  have hch := hd (holds_i t vt w lo hi hR)
  obtain ⟨b, a, c, vs, rfl, hb, c0, c1, c2, c3, c4, c5, hS, hl, hg⟩ := hR.open
  have hg := hd hg
  obtain ⟨ao, co, rfl, _⟩ := hO.sl
  simp only [List.length_map] at hO ⊢
  have hO := hd hO
  obtain ⟨i0, hi0, hz0, hz1, hz2⟩ := info_parts infoNode
  have Hi := hd hi0; have Hz0 := hd hz0; have Hz1 := hd hz1; have Hz2 := hd hz2
  clear hi0 hz0 hz1 hz2
  rw [least_top] at hend
  have hone := hd (DNode.enc_one [⟨0, ⟨#[]⟩, no, up, holdsB t.of⟩])
  have hsn := hd (map_snocN out ⟨0, ⟨#[]⟩, no, up, holdsB t.of⟩)
  have hpl := len_count t.parts
  have h5' := hd (fun (h : t.of = 5) => least_parts5 h no)
  have hn5 := hd (fun (h : t.of ≠ 5) => least_partsN h no)
  have hll := hd (fun j => Nat.le_trans (leastL_le (t.parts.take j)) (countL_le t.parts j))
  have hstep := hd (fun j (h : j < t.parts.length) => leastL_take h)
  have hup := hd (upToV_len out ⟨0, ⟨#[]⟩, no, up, holdsB t.of⟩)
  have hcp := hd (fun j (h : j < t.parts.length) => (⟨countL_take h, countL_le t.parts (j + 1)⟩ : _ ∧ _))
  have hl0 := hd (fun j => leastL_le (t.parts.take j))
  have hno := hd (hO.out.no (b := b) (.inl (by omega)))
  clear hR
  generalize hT : (out ++ rowsV (leastK t no) up out.length).map DNode.enc = T at *
  replace hT := hd hT
  generalize (leastK t no).parts = lp at *
  generalize t.parts = ps at *
  generalize holdsB t.of = hb0 at *
  generalize t.of = o at *
  by_cases h5 : o = 5
  · rw [h5'.out h5] at hend
    subst h5
    go_enter Try.func67, Try.ntmps67
    go_wp2_with fail
    refine hch.out.mono ?_
    rintro e w2 ⟨rfl, rfl⟩
    go_wp2_with (at_builtin; refine wpList_appOwn rfl (.tmp 14) (.tmp 20) 37 rfl B 113 i0 _ 5 48 Try.underlying37 Hi.out Hz0.out Hz1.out Hz2.out rfl (by decide) _ (out.map DNode.enc) [DNode.enc ⟨0, ⟨#[]⟩, no, up, hb0⟩] rfl (hO.out.below (below_a1 _)) _ 1 1 rfl rfl (one_row rfl) (cells_new _ _ _) hone.out (by simp only [List.length_map]; omega) (by decide) (by first | omega | exact Nat.le_refl _ | (simp; done) | (simp; omega)) ?_; intro v6 w6 ho6 hga hva; have hG6 := hd ((Gr.of_below (v := .slice ao out.length co) (below_a1 w)).trans (Gr.app hga hva)); have q0 := hG6.out.kept c0 hno.out; have q5 := hG6.out.kept c5 hno.out; have hBz := hd (hG6.out.below hB (fun g hg => (hO.out.lt g hg).1)); rw [hsn.out] at ho6; replace ho6 := hd ho6; clear hga hva c0 c1 c2 c3 c4 c5)
    have hz6 : B ≤ w6.heap.size := Nat.le_trans hB hG6.out.1.size
    have hS6 := hd (hS.same (Same.belowB hBz.out hhB) (Nat.le_refl _) (Nat.le_refl _) : PSl w6 lo hi _ _)
    have hR6 := hd (fun j (h : j < ps.length) (h' : j < vs.length) => (hg.out j h h').same (Same.belowB hBz.out hhB) (Nat.le_refl _) (Nat.le_refl _) ps[j] vs[j])
    have hzero := hd (show out ++ [⟨0, ⟨#[]⟩, no, up, hb0⟩] = upToV out ⟨0, ⟨#[]⟩, no, up, hb0⟩ (leastL (ps.take 0)) (leastL (ps.take 0)).length by rw [List.take_zero, leastL, List.length_nil, upToV_zero])
    rw [hzero.out] at ho6
    go_loopw [1, 32] (fun s n wr => ∃ (sv : Value) (j : Nat), sv = s ∧ j ≤ ps.length ∧ n = .int .i64 j ∧ Hd (Own wr B 113 5 s ((upToV out ⟨0, ⟨#[]⟩, no, up, hb0⟩ (leastL (ps.take j)) (leastL (ps.take j)).length).map DNode.enc)) ∧ Hd (Gr w6 v6 wr s)) (fun _ n _ => ps.length - (intOf n).toNat)
    case atStart => exact ⟨_, 0, rfl, Nat.zero_le _, rfl, ho6.out, Gr.refl _ _⟩
    case round =>
      obtain ⟨s, j, rfl, hj, rfl, hOr, hGr⟩ := hrel
      obtain ⟨wo, rfl⟩ : ∃ wo : World, wo = wr := ⟨_, rfl⟩
      have hBr := hd (hGr.out.below hz6 (fun g hg => (ho6.out.lt g hg).1))
      have hzr : B ≤ wo.heap.size := Nat.le_trans hz6 hGr.out.1.size
      by_cases hlt : j < ps.length
      · have hltI : (j : Int) < (ps.length : Int) := by omega
        obtain ⟨b1, o1, rfl, hb1, hc1⟩ := hS6.out.at (j := j) (by omega)
        have qj := hc1 j (by omega)
        rw [← hBr.out.cell (p := ⟨b1, o1 + j, none⟩) (by show b1 < B; omega)] at qj
        have hRj := (hR6.out j hlt (by omega)).same (Same.belowB hBr.out hhB) (Nat.le_refl _) (Nat.le_refl _) _ _
        obtain ⟨bp, ap, cp, vp, hvp, hbp, p0, p1, p2, p3, p4, p5, _, _, _⟩ := hRj.open
        rw [hvp] at qj hRj
        have hst := hstep.out j hlt
        have hcc := hcp.out j hlt
        have hle := hl0.out j
        have ci := hd (fun no' up' => ih.out ps[j] (List.getElem_mem hlt) _ (upToV out ⟨0, ⟨#[]⟩, no, up, hb0⟩ (leastL (ps.take j)) (leastL (ps.take j)).length) s no' up' wo lo hi B hhB hzr (by rw [hup.out, List.take_length]; omega) hRj hOr.out)
        clear p0 p1 p4 p5 hc1 hcc hle
        cases hm : ps[j].must with
        | true =>
          rw [hm] at p3
          rw [hm, if_pos rfl] at hst
          have hfin := hd (show upToV out ⟨0, ⟨#[]⟩, no, up, hb0⟩ (leastL (ps.take j)) (leastL (ps.take j)).length ++ rowsV (leastK ps[j] ps[j].no) out.length (upToV out ⟨0, ⟨#[]⟩, no, up, hb0⟩ (leastL (ps.take j)) (leastL (ps.take j)).length).length = upToV out ⟨0, ⟨#[]⟩, no, up, hb0⟩ (leastL (ps.take (j + 1))) (leastL (ps.take (j + 1))).length by
            have h1 := upToV_step (ps := leastL (ps.take (j + 1))) (j := (leastL (ps.take j)).length) (by rw [hst]; simp) out ⟨0, ⟨#[]⟩, no, up, hb0⟩
            have e1 : upToV out ⟨0, ⟨#[]⟩, no, up, hb0⟩ (leastL (ps.take (j + 1))) (leastL (ps.take j)).length = upToV out ⟨0, ⟨#[]⟩, no, up, hb0⟩ (leastL (ps.take j)) (leastL (ps.take j)).length := by
              rw [upToV, upToV, hst, List.take_left, List.take_length]
            have e2 : (leastL (ps.take (j + 1))).length = (leastL (ps.take j)).length + 1 := by rw [hst]; simp
            have e3 : (leastL (ps.take (j + 1)))[(leastL (ps.take j)).length]'(by rw [hst]; simp) = leastK ps[j] ps[j].no := by simp [hst]
            rw [e2, h1, e1, e3])
          clear hst hm hvp
          generalize ps[j] = p at *
          generalize p.no = pn at *
          generalize p.must = pm at *
          go_wp2_with fail
          refine (ci.out pn out.length).mono ?_
          rintro e w8 ⟨s8, rfl, ho8, hg8⟩
          rw [hfin.out] at ho8
          have hG8 := hd (hGr.out.trans hg8)
          replace ho8 := hd ho8
          clear hg8
          go_wp2_with fail
          go_roundw
          case rel => exact ⟨s8, j + 1, rfl, by omega, by go_num, ho8, hG8⟩
          case measure => simp [intOf]; omega
        | false =>
          rw [hm] at p3
          rw [hm] at hst
          have hOs := hd (show Own wo B 113 5 s ((upToV out ⟨0, ⟨#[]⟩, no, up, hb0⟩ (leastL (ps.take (j + 1))) (leastL (ps.take (j + 1))).length).map DNode.enc) from by rw [hst]; simpa using hOr.out)
          clear hst hm hvp ci
          generalize ps[j] = p at *
          generalize p.no = pn at *
          generalize p.must = pm at *
          go_wp2_with fail
          go_roundw
          case rel => exact ⟨s, j + 1, rfl, by omega, by go_num, hOs, hGr⟩
          case measure => simp [intOf]; omega
      · obtain rfl : j = ps.length := by omega
        have hltI : ¬ (ps.length : Int) < (ps.length : Int) := by omega
        rw [List.take_length, hend.out, hT.out] at hOr
        go_wp2_with fail
        go_ret
        exact ⟨s, rfl, hOr.out, hG6.out.trans hGr.out⟩
  · rw [hn5.out h5, List.length_nil, upToV_zero] at hend
    have h5b : (o == 5) = false := by simpa using h5
    clear h5
    go_enter Try.func67, Try.ntmps67
    go_wp2_with fail
    refine hch.out.mono ?_
    rintro e w2 ⟨rfl, rfl⟩
    go_wp2_with (at_builtin; refine wpList_appOwn rfl (.tmp 14) (.tmp 20) 37 rfl B 113 i0 _ 5 48 Try.underlying37 Hi.out Hz0.out Hz1.out Hz2.out rfl (by decide) _ (out.map DNode.enc) [DNode.enc ⟨0, ⟨#[]⟩, no, up, hb0⟩] rfl (hO.out.below (below_a1 _)) _ 1 1 rfl rfl (one_row rfl) (cells_new _ _ _) hone.out (by simp only [List.length_map]; omega) (by decide) (by first | omega | exact Nat.le_refl _ | (simp; done) | (simp; omega)) ?_; intro v6 w6 ho6 hga hva; have hG6 := hd ((Gr.of_below (v := .slice ao out.length co) (below_a1 w)).trans (Gr.app hga hva)); have q0 := hG6.out.kept c0 hno.out; have q5 := hG6.out.kept c5 hno.out; have hBz := hd (hG6.out.below hB (fun g hg => (hO.out.lt g hg).1)); rw [hsn.out] at ho6; replace ho6 := hd ho6; clear hga hva c0 c1 c2 c3 c4 c5)
    have hz6 : B ≤ w6.heap.size := Nat.le_trans hB hG6.out.1.size
    have hS6 := hd (hS.same (Same.belowB hBz.out hhB) (Nat.le_refl _) (Nat.le_refl _) : PSl w6 lo hi _ _)
    have hR6 := hd (fun j (h : j < ps.length) (h' : j < vs.length) => (hg.out j h h').same (Same.belowB hBz.out hhB) (Nat.le_refl _) (Nat.le_refl _) ps[j] vs[j])
    rw [hend.out, hT.out] at ho6
    go_wp2_with fail
    go_ret
    exact ⟨v6, rfl, ho6.out, hG6.out⟩
end Go.Proofs.Ytobahkjbadamhaa
