/- The cells of a term behind others: cells of the program, l6Flat of the reference. -/
import Derived.Test.YtbjilpemckoioaaDoorGoodT
import Derived.Deep.RegionLaw
import Derived.Deep.RegionHeld3
import Derived.StillTailTactics
namespace Go.Proofs.YtbjilpemckoioaaDoor
open Go.RowKit
set_option linter.unusedVariables false
set_option maxRecDepth 100000
theorem DCell.enc_one (l : List DCell) : ∀ u ∈ (l.map DCell.enc).flatten, u.oneCell' = true := by
  intro u hu
  obtain ⟨r, hr, hu⟩ := List.mem_flatten.1 hu
  obtain ⟨x, _, rfl⟩ := List.mem_map.1 hr
  simp only [DCell.enc, List.mem_cons, List.not_mem_nil, or_false] at hu
  rcases hu with rfl | rfl | rfl <;> rfl
mutual
/-- The cells of a term. -/
def flK : K → List DCell
  | .mk o nm no mu mo ps => ⟨o, nm, ps.length⟩ :: flL ps
def flL : List K → List DCell
  | [] => []
  | p :: ps => flK p ++ flL ps
end
theorem flK_eq (t : K) : flK t = ⟨t.of, t.name, t.parts.length⟩ :: flL t.parts := by cases t; rw [flK]; rfl
theorem flL_snoc (p : K) : ∀ ps : List K, flL (ps ++ [p]) = flL ps ++ flK p := by
  intro ps
  induction ps with
  | nil => simp [flL]
  | cons q ps ih => rw [List.cons_append, flL, flL, ih, List.append_assoc]
theorem flL_take {ps : List K} {j : Nat} (h : j < ps.length) : flL (ps.take (j + 1)) = flL (ps.take j) ++ flK ps[j] := by
  rw [List.take_succ_eq_append_getElem h, flL_snoc]
theorem flL_len : ∀ ps : List K, (∀ p ∈ ps, (flK p).length = countK p) → (flL ps).length = countL ps := by
  intro ps
  induction ps with
  | nil => intro _; simp [flL, countL]
  | cons p ps ih => intro h; rw [flL, countL, List.length_append, h p (by simp), ih (fun q hq => h q (by simp [hq]))]
theorem flK_len (t : K) : (flK t).length = countK t := by
  refine K.ind (P := fun t => (flK t).length = countK t) ?_ t
  intro o nm no mu mo ps ih
  rw [flK, countK, List.length_cons, flL_len ps ih]; omega
def upC (out : List DCell) (x : DCell) (ps : List K) (j : Nat) : List DCell := out ++ x :: flL (ps.take j)
theorem upC_zero (out : List DCell) (x : DCell) (ps : List K) : upC out x ps 0 = out ++ [x] := by rw [upC, List.take_zero, flL]
theorem upC_len (out : List DCell) (x : DCell) (ps : List K) (j : Nat) : (upC out x ps j).length = out.length + 1 + countL (ps.take j) := by rw [upC, List.length_append, List.length_cons, flL_len _ (fun p _ => flK_len p)]; omega
theorem upC_step {ps : List K} {j : Nat} (h : j < ps.length) (out : List DCell) (x : DCell) : upC out x ps (j + 1) = upC out x ps j ++ flK ps[j] := by
  rw [upC, flL_take h, upC, List.append_assoc, List.cons_append]
theorem upC_end (out : List DCell) (t : K) : upC out ⟨t.of, t.name, t.parts.length⟩ t.parts t.parts.length = out ++ flK t := by rw [upC, List.take_length, flK_eq]
theorem map_snocC (l : List DCell) (x : DCell) : l.map DCell.enc ++ [x.enc] = (l ++ [x]).map DCell.enc := by rw [List.map_append]; rfl
set_option maxHeartbeats 3200000 in
theorem cells_i (t : K) : ∀ (vt : Value) (out : List DCell) (v : Value) (w : World) (S : Nat → Prop) (B : Nat), (∀ q, S q → q < B) → B ≤ w.heap.size → out.length + countK t ≤ 1000000 → RepY HT w S t vt → Own w B 64 3 v (out.map DCell.enc) →
    Calls Tryd.prog 26 #[vt, v] w (GrPost B 64 3 ((out ++ flK t).map DCell.enc) v w) := by
  refine K.ind2 (P := fun t => ∀ (vt : Value) (out : List DCell) (v : Value) (w : World) (S : Nat → Prop) (B : Nat), (∀ q, S q → q < B) → B ≤ w.heap.size → out.length + countK t ≤ 1000000 → RepY HT w S t vt → Own w B 64 3 v (out.map DCell.enc) →
    Calls Tryd.prog 26 #[vt, v] w (GrPost B 64 3 ((out ++ flK t).map DCell.enc) v w)) ?_ t
  intro t ih vt out v w S B hSB hB hc hR hO
  have ih := hd ih
  rw [countK_eq] at hc
  have hend := hd (upC_end out t)
  obtain ⟨b, a, c, vs, rfl, hb, hxA, hS, hl, hg⟩ := hR.open
  have c0 := hxA 0 _ rfl
  have c1 := hxA 1 _ rfl
  have c2 := hxA 2 _ rfl
  change w.cell? ⟨b, 0, none⟩ = some (.int .i64 t.of) at c0
  change w.cell? ⟨b, 1, none⟩ = some (.string t.name) at c1
  change w.cell? ⟨b, 2, none⟩ = some (.slice a t.parts.length c) at c2
  clear hxA
  have hbB := hSB b hb
  have hg := hd hg
  obtain ⟨ao, co, rfl, _⟩ := hO.sl
  simp only [List.length_map] at hO ⊢
  have hO := hd hO
  obtain ⟨i0, hi0, hz0, hz1, hz2⟩ := info_parts infoCell
  have Hi := hd hi0; have Hz0 := hd hz0; have Hz1 := hd hz1; have Hz2 := hd hz2
  clear hi0 hz0 hz1 hz2
  have hpl := len_count t.parts
  have hstep := hd (fun j (h : j < t.parts.length) => upC_step h out ⟨t.of, t.name, t.parts.length⟩)
  have hlen := hd (upC_len out ⟨t.of, t.name, t.parts.length⟩ t.parts)
  have hzero := hd (upC_zero out ⟨t.of, t.name, t.parts.length⟩ t.parts)
  have hcl := hd (countL_le t.parts)
  have hone := hd (DCell.enc_one [⟨t.of, t.name, t.parts.length⟩])
  have hsn := hd (map_snocC out ⟨t.of, t.name, t.parts.length⟩)
  have hctk := hd (fun j (h : j < t.parts.length) => countL_take h)
  clear hR
  generalize t.parts = ps at *
  generalize t.of = o at *
  generalize t.name = nm at *
  go_enter Tryd.func26, Tryd.ntmps26
  go_upto_region 1 with (fail)
  have hneb : some b ≠ (Value.slice ao out.length co).ownBlock := fun e => hO.out.no (.inl hbB) e.symm
  have hO1 := hd (hO.out.below (below_a1 w (a := .cells #[.int .i64 o, .string nm, .int .i64 ps.length] 64)))
  have hcn := hd (cells_new w [.int .i64 o, .string nm, .int .i64 ps.length] 64)
  go_region_held3 (fun w' => w'.cell? ⟨b, 0, none⟩ = some (.int .i64 o) ∧ w'.cell? ⟨b, 1, none⟩ = some (.string nm) ∧ w'.cell? ⟨b, 2, none⟩ = some (.slice a ps.length c))
    (first
      | go_keep
      | (go_split_ands; refine ⟨?_, ?_, ?_⟩ <;> exact hga.cell (by assumption) hneb))
    ((refine step_appOwn (by rfl) _ _ _ (by rfl) B 64 i0 _ 3 32 Tryd.underlying28 Hi.out Hz0.out Hz1.out Hz2.out (by rfl) (by decide) _ (out.map DCell.enc) [DCell.enc ⟨o, nm, ps.length⟩] (by rfl) (by exact hO1.out) _ 1 _ (by rfl) (by rfl) (one_row rfl) hcn.out hone.out (by simp only [List.length_map]; omega) (by decide) (by simp; omega) ?_; intro v6 w6 ho6 hga hva))
  rw [hsn.out, ← hzero.out] at ho6
  replace ho6 := hd ho6
  have hGG := hd ((Gr.of_below (v := .slice ao out.length co) (below_a1 w (a := .cells #[.int .i64 o, .string nm, .int .i64 ps.length] 64)).drew).trans (Gr.app hga hva))
  have hBz := hd (hGG.out.below hB (fun g hg => (hO.out.lt g hg).1))
  have q6 := hBz.out.cell (p := ⟨b, 2, none⟩) (by show b < B; omega)
  rw [c2] at q6
  have hs6 := hd (SameS.belowB hBz.out hSB)
  have hS6 := hd (hS.same hs6.out (fun _ h => h))
  have hR6 := hd (fun j (h : j < ps.length) (h' : j < vs.length) => RepY.same hs6.out (fun _ h => h) ps[j] vs[j] (hg.out j h h'))
  have hz6 : B ≤ w6.heap.size := Nat.le_trans hB hGG.out.1.size
  clear c0 c1 c2 hO hg hS hga hva hneb hO1 hcn hs6
  go_wp2_with fail
  go_loopw [1, 29] (fun s n wr => ∃ (sv : Value) (j : Nat), sv = s ∧ j ≤ ps.length ∧ n = .int .i64 j ∧ Hd (Own wr B 64 3 s ((upC out ⟨o, nm, ps.length⟩ ps j).map DCell.enc)) ∧ Hd (Gr w6 v6 wr s)) (fun _ n _ => ps.length - (intOf n).toNat)
  case atStart => exact ⟨_, 0, rfl, Nat.zero_le _, rfl, ho6.out, Gr.refl _ _⟩
  case round =>
    obtain ⟨s, j, rfl, hj, rfl, hOr, hGr⟩ := hrel
    obtain ⟨wo, rfl⟩ : ∃ wo : World, wo = wr := ⟨_, rfl⟩
    have hBr := hd (hGr.out.below hz6 (fun g hg => (ho6.out.lt g hg).1))
    have hzr : B ≤ wo.heap.size := Nat.le_trans hz6 hGr.out.1.size
    by_cases hlt : j < ps.length
    · have hltI : (j : Int) < (ps.length : Int) := by omega
      obtain ⟨b1, rfl, hb1, hc1⟩ := hS6.out.at (j := j) (by omega)
      have qj := hc1 j (by omega)
      rw [← hBr.out.cell (p := ⟨b1, j, none⟩) (by show b1 < B; exact hSB b1 hb1)] at qj
      have hlj := hlen.out j
      have hck := hctk.out j hlt
      have hcle := hcl.out (j + 1)
      have ci := hd (ih.out ps[j] (List.getElem_mem hlt) vs[j] (upC out ⟨o, nm, ps.length⟩ ps j) s wo S B hSB hzr (by omega) (RepY.same (SameS.belowB hBr.out hSB) (fun _ h => h) _ _ (hR6.out j hlt (by omega))) hOr.out)
      rw [← hstep.out j hlt] at ci
      generalize vs[j] = u at *
      clear hc1 hlj hck hcle
      go_wp2_with fail
      refine ci.out.mono ?_
      rintro e w8 ⟨s8, rfl, ho8, hg8⟩
      have hG8 := hd (hGr.out.trans hg8)
      replace ho8 := hd ho8
      clear hg8
      go_wp2_with fail
      go_roundw
      case rel => exact ⟨s8, j + 1, rfl, by omega, by go_num, ho8, hG8⟩
      case measure => simp [intOf]; omega
    · obtain rfl : j = ps.length := by omega
      have hltI : ¬ (ps.length : Int) < (ps.length : Int) := by omega
      rw [hend.out] at hOr
      go_wp2_with fail
      go_ret
      exact ⟨s, rfl, by first | exact hOr.out | (rw [← List.map_append]; exact hOr.out), hGG.out.trans hGr.out⟩
theorem Gr.boxNC {w w' : World} {v v' : Value} {b : Nat} {cs : List Value} (h : Gr w v w' v') (hX : BoxN w b cs) (hne : v.ownBlock ≠ some b) : BoxN w' b cs := hX.grown h.1 (fun e => hne e.symm)
set_option maxHeartbeats 3200000 in
theorem flat6_s (t : K) : ∀ (r : List Value) (out : List DCell) (v : Value) (w : World) (S : Nat → Prop) (B : Nat), (∀ q, S q → q < B) → B ≤ w.heap.size → out.length + countK t ≤ 1000000 → RepZ HT 3 w S t r → Own w B 64 3 v (out.map DCell.enc) →
    Calls Tryd.prog 37 #[.agg r.toArray, v] w (GrPost B 64 3 ((out ++ flK t).map DCell.enc) v w) := by
  refine K.ind2 (P := fun t => ∀ (r : List Value) (out : List DCell) (v : Value) (w : World) (S : Nat → Prop) (B : Nat), (∀ q, S q → q < B) → B ≤ w.heap.size → out.length + countK t ≤ 1000000 → RepZ HT 3 w S t r → Own w B 64 3 v (out.map DCell.enc) →
    Calls Tryd.prog 37 #[.agg r.toArray, v] w (GrPost B 64 3 ((out ++ flK t).map DCell.enc) v w)) ?_ t
  intro t ih r out v w S B hSB hB hc hR hO
  have ih := hd ih
  rw [countK_eq] at hc
  have hend := hd (upC_end out t)
  obtain ⟨a, c, rows, rfl, hS, hl, hg⟩ := hR.openT
  have hg := hd hg
  have hS := hd hS
  obtain ⟨ao, co, rfl, _⟩ := hO.sl
  simp only [List.length_map] at hO ⊢
  have hO := hd hO
  obtain ⟨i0, hi0, hz0, hz1, hz2⟩ := info_parts infoCell
  have Hi := hd hi0; have Hz0 := hd hz0; have Hz1 := hd hz1; have Hz2 := hd hz2
  clear hi0 hz0 hz1 hz2
  have hpl := len_count t.parts
  have hstep := hd (fun j (h : j < t.parts.length) => upC_step h out ⟨t.of, t.name, t.parts.length⟩)
  have hlen := hd (upC_len out ⟨t.of, t.name, t.parts.length⟩ t.parts)
  have hzero := hd (upC_zero out ⟨t.of, t.name, t.parts.length⟩ t.parts)
  have hcl := hd (countL_le t.parts)
  have hone := hd (DCell.enc_one [⟨t.of, t.name, t.parts.length⟩])
  have hsn := hd (map_snocC out ⟨t.of, t.name, t.parts.length⟩)
  have hctk := hd (fun j (h : j < t.parts.length) => countL_take h)
  clear hR
  generalize t.parts = ps at *
  generalize t.of = o at *
  generalize t.name = nm at *
  have hX := hd (BoxN.new w [.int .i64 o, .string nm, .slice a ps.length c] 41)
  change Hd (BoxN (w.alloc (.cells #[.int .i64 o, .string nm, .slice a ps.length c] 41)) _ _) at hX
  have hbd := hd (below_a1 w (a := .cells #[.int .i64 o, .string nm, .slice a ps.length c] 41))
  have hsW : w.heap.size + 1 ≤ (w.alloc (.cells #[.int .i64 o, .string nm, .slice a ps.length c] 41)).heap.size := by simp
  go_enter Tryd.func37, Tryd.ntmps37
  go_upto_region 1 with (fail)
  generalize w.alloc (.cells #[.int .i64 o, .string nm, .slice a ps.length c] 41) = W at *
  have hO1 := hd (hO.out.below hbd.out)
  have hsb := SameS.below hbd.out (fun q h => Nat.lt_of_lt_of_le (hSB q h) hB)
  have hg1 := hd (fun j (h : j < ps.length) (h' : j < rows.length) => RepZ.same hsb (fun _ h => h) _ _ (hg.out j h h'))
  have hS1 := hd (hS.out.same hsb (fun _ h => h))
  have hB1 : B ≤ W.heap.size := by omega
  have hG1 := hd (Gr.of_below (v := .slice ao out.length co) hbd.out)
  have hno := hd (hO.out.no (b := w.heap.size) (.inr (Nat.le_refl _)))
  have x0 := hX.out.1 0 _ rfl; have x1 := hX.out.1 1 _ rfl; have x2 := hX.out.1 2 _ rfl
  clear hO hg hS hB hbd hsb
  go_wp2_with (at_builtin; refine wpList_appOwn rfl (.tmp 7) (.tmp 16) 28 rfl B 64 i0 _ 3 32 Tryd.underlying28 Hi.out Hz0.out Hz1.out Hz2.out rfl (by decide) _ (out.map DCell.enc) [DCell.enc ⟨o, nm, ps.length⟩] rfl (hO1.out.below (below_a1 _)) _ 1 1 rfl rfl (one_row rfl) (cells_new _ _ _) hone.out (by simp only [List.length_map]; omega) (by decide) (by first | omega | exact Nat.le_refl _ | (simp; done) | (simp; omega)) ?_; intro v6 w6 ho6 hga hva; have hG6 := hd ((Gr.of_below (v := .slice ao out.length co) (below_a1 W)).trans (Gr.app hga hva)); rw [hsn.out, ← hzero.out] at ho6; have hBz := hd (hG6.out.below hB1 (fun g hg => (hO1.out.lt g hg).1)); have hX6 := hd (hG6.out.boxNC hX.out hno.out); have y5 := hX6.out.1 2 _ rfl; replace ho6 := hd ho6; clear hga hva x0 x1 x2)
  have hGG := hd (hG1.out.trans hG6.out)
  have hs6 := hd (SameS.belowB hBz.out hSB)
  have hS6 := hd (hS1.out.same hs6.out (fun _ h => h))
  have hR6 := hd (fun j (h : j < ps.length) (h' : j < rows.length) => RepZ.same hs6.out (fun _ h => h) ps[j] rows[j] (hg1.out j h h'))
  have hz6 : B ≤ w6.heap.size := Nat.le_trans hB1 hG6.out.1.size
  clear hO1 hg1 hS1 hG1 hG6 hBz hs6
  go_wp2_with fail
  go_loopw [1, 21] (fun s n wr => ∃ (sv : Value) (j : Nat), sv = s ∧ j ≤ ps.length ∧ n = .int .i64 j ∧ Hd (Own wr B 64 3 s ((upC out ⟨o, nm, ps.length⟩ ps j).map DCell.enc)) ∧ Hd (Gr w6 v6 wr s)) (fun _ n _ => ps.length - (intOf n).toNat)
  case atStart => exact ⟨_, 0, rfl, Nat.zero_le _, rfl, ho6.out, Gr.refl _ _⟩
  case round =>
    obtain ⟨s, j, rfl, hj, rfl, hOr, hGr⟩ := hrel
    obtain ⟨wo, rfl⟩ : ∃ wo : World, wo = wr := ⟨_, rfl⟩
    have hBr := hd (hGr.out.below hz6 (fun g hg => (ho6.out.lt g hg).1))
    have hzr : B ≤ wo.heap.size := Nat.le_trans hz6 hGr.out.1.size
    by_cases hlt : j < ps.length
    · have hltI : (j : Int) < (ps.length : Int) := by omega
      obtain ⟨b1, rfl, hb1, hc1⟩ := hS6.out.at (j := j) (by omega)
      have hp := RepZ.same (SameS.belowB hBr.out hSB) (fun _ h => h) _ _ (hR6.out j hlt (by omega))
      obtain ⟨ak, ck, rowsk, hrk, _⟩ := hp.openT
      have hck := hc1 j (by omega)
      have hlj := hlen.out j
      have hctj := hctk.out j hlt
      have hcle := hcl.out (j + 1)
      have ci := hd (fun w' (hb : Below wo.heap.size wo w') => ih.out ps[j] (List.getElem_mem hlt) rows[j] (upC out ⟨o, nm, ps.length⟩ ps j) s w' S B hSB (Nat.le_trans hzr hb.size) (by omega) (RepZ.same (SameS.below hb (fun q h => Nat.lt_of_lt_of_le (hSB q h) hzr)) (fun _ h => h) _ _ hp) (hOr.out.below hb))
      rw [← hstep.out j hlt] at ci
      rw [hrk] at hck ci
      have kb := fun o u (h : w6.cell? ⟨b1, o, none⟩ = some u) => (show wo.cell? ⟨b1, o, none⟩ = some u from by rw [hBr.out.cell (p := ⟨b1, o, none⟩) (by show b1 < B; exact hSB b1 hb1)]; exact h)
      have d0 := kb _ _ (show w6.cell? ⟨b1, j * 3, none⟩ = _ from hck 0 _ rfl)
      have d1 := kb _ _ (hck 1 _ rfl)
      have d2 := kb _ _ (hck 2 _ rfl)
      have hgb := hd (fun o => Gr.of_below (v := s) (below_a1 wo (a := o)))
      generalize ps[j] = p at *
      clear hc1 hrk hck hp kb hlj hctj hcle
      go_wp2_with fail
      refine (ci.out _ (below_a1 wo)).mono ?_
      rintro e w8 ⟨s8, rfl, ho8, hg8⟩
      have hG8 := hd (hGr.out.trans ((hgb.out _).trans hg8))
      replace ho8 := hd ho8
      clear hg8
      go_wp2_with fail
      go_roundw
      case rel => exact ⟨s8, j + 1, rfl, by omega, by go_num, ho8, hG8⟩
      case measure => simp [intOf]; omega
    · obtain rfl : j = ps.length := by omega
      have hltI : ¬ (ps.length : Int) < (ps.length : Int) := by omega
      rw [hend.out] at hOr
      go_wp2_with fail
      go_ret
      exact ⟨s, rfl, by first | exact hOr.out | (rw [← List.map_append]; exact hOr.out), hGG.out.trans hGr.out⟩
end Go.Proofs.YtbjilpemckoioaaDoor
