/- The rows of a tree of types behind others: types of the program (with TypesS, Tell2, Schema, SubSch, Tell3). -/
import Derived.Test.YtobahkjbadamhaaTrees
import Derived.Test.YtobahkjbadamhaaKindQVW
import Derived.Test.YtobahkjbadamhaaSubMI
import Derived.Deep.RegionLaw
import Derived.Deep.RegionHeld3
import Derived.StillTailTactics
/- The rows of a tree of types behind others: types of the program. -/
namespace Go.Proofs.Ytobahkjbadamhaa
open Go.RowKit
set_option linter.unusedVariables false
set_option maxRecDepth 100000
theorem DType.enc_one (l : List DType) : ∀ u ∈ (l.map DType.enc).flatten, u.oneCell' = true := by
  intro u hu
  obtain ⟨r, hr, hu⟩ := List.mem_flatten.1 hu
  obtain ⟨x, _, rfl⟩ := List.mem_map.1 hr
  simp only [DType.enc, List.mem_cons, List.not_mem_nil, or_false] at hu
  rcases hu with rfl | rfl | rfl | rfl | rfl | rfl <;> rfl
theorem rowsL_snoc (p : K) (up : Nat) : ∀ (ps : List K) (q : Nat), rowsL (ps ++ [p]) up q = rowsL ps up q ++ rowsK p up (q + countL ps) := by
  intro ps
  induction ps with
  | nil => intro q; simp only [List.nil_append, rowsL, countL, Nat.add_zero, List.append_nil]
  | cons x xs ih => intro q; show rowsK x up q ++ rowsL (xs ++ [p]) up (q + countK x) = (rowsK x up q ++ rowsL xs up (q + countK x)) ++ rowsK p up (q + (countK x + countL xs)); rw [ih, List.append_assoc, Nat.add_assoc]
theorem rowsL_len (ps : List K) (up q : Nat) : (rowsL ps up q).length = countL ps := rowsL_count ps (fun p _ => rows_count p) up q
theorem rowsL_take {ps : List K} {j : Nat} (h : j < ps.length) (up q : Nat) : rowsL (ps.take (j + 1)) up q = rowsL (ps.take j) up q ++ rowsK ps[j] up (q + countL (ps.take j)) := by
  rw [List.take_succ_eq_append_getElem h, rowsL_snoc]
theorem rowsK_eq (t : K) (up : Int) (q : Nat) : rowsK t up q = ⟨t.of, t.name, t.no, t.must, up, t.most⟩ :: rowsL t.parts q (q + 1) := by cases t; rw [rowsK]; rfl
/-- What lies behind others after so many parts. -/
def upTo (out : List DType) (x : DType) (ps : List K) (j : Nat) : List DType := out ++ x :: rowsL (ps.take j) out.length (out.length + 1)
theorem upTo_zero (out : List DType) (x : DType) (ps : List K) : upTo out x ps 0 = out ++ [x] := by rw [upTo, List.take_zero, rowsL]
theorem upTo_len (out : List DType) (x : DType) (ps : List K) (j : Nat) : (upTo out x ps j).length = out.length + 1 + countL (ps.take j) := by rw [upTo, List.length_append, List.length_cons, rowsL_len]; omega
theorem upTo_step {ps : List K} {j : Nat} (h : j < ps.length) (out : List DType) (x : DType) : upTo out x ps (j + 1) = upTo out x ps j ++ rowsK ps[j] out.length (upTo out x ps j).length := by
  rw [upTo_len, upTo, rowsL_take h, upTo, List.append_assoc, List.cons_append]
theorem upTo_end (out : List DType) (t : K) (up : Int) : upTo out ⟨t.of, t.name, t.no, t.must, up, t.most⟩ t.parts t.parts.length = out ++ rowsK t up out.length := by rw [upTo, List.take_length, rowsK_eq]
theorem map_snocT (l : List DType) (x : DType) : l.map DType.enc ++ [x.enc] = (l ++ [x]).map DType.enc := by rw [List.map_append]; rfl
set_option maxHeartbeats 3200000 in
theorem types_i (t : K) : ∀ (vt : Value) (out : List DType) (v : Value) (up : Int) (w : World) (lo hi B : Nat), hi ≤ B → B ≤ w.heap.size → out.length + countK t ≤ 1000000 → RepP w lo hi t vt → Own w B 71 6 v (out.map DType.enc) →
    Calls Try.prog 100 #[vt, v, .int .i64 up] w (GrPost B 71 6 ((out ++ rowsK t up out.length).map DType.enc) v w) := by
  refine K.ind2 (P := fun t => ∀ (vt : Value) (out : List DType) (v : Value) (up : Int) (w : World) (lo hi B : Nat), hi ≤ B → B ≤ w.heap.size → out.length + countK t ≤ 1000000 → RepP w lo hi t vt → Own w B 71 6 v (out.map DType.enc) →
    Calls Try.prog 100 #[vt, v, .int .i64 up] w (GrPost B 71 6 ((out ++ rowsK t up out.length).map DType.enc) v w)) ?_ t
  intro t ih vt out v up w lo hi B hhB hB hc hR hO
  have ih := hd ih
  rw [countK_eq] at hc
  have hend := hd (upTo_end out t up)
  obtain ⟨b, a, c, vs, rfl, hb, c0, c1, c2, c3, c4, c5, hS, hl, hg⟩ := hR.open
  have hg := hd hg
  obtain ⟨ao, co, rfl, _⟩ := hO.sl
  simp only [List.length_map] at hO ⊢
  have hO := hd hO
  obtain ⟨i0, hi0, hz0, hz1, hz2⟩ := info_parts infoType
  have Hi := hd hi0; have Hz0 := hd hz0; have Hz1 := hd hz1; have Hz2 := hd hz2
  clear hi0 hz0 hz1 hz2
  have hcp := hd (fun p (hp : p ∈ t.parts) => count_part hp)
  have hpl := len_count t.parts
  have hstep := hd (fun j (h : j < t.parts.length) => upTo_step h out ⟨t.of, t.name, t.no, t.must, up, t.most⟩)
  have hlen := hd (upTo_len out ⟨t.of, t.name, t.no, t.must, up, t.most⟩ t.parts)
  have hzero := hd (upTo_zero out ⟨t.of, t.name, t.no, t.must, up, t.most⟩ t.parts)
  have hcl := hd (countL_le t.parts)
  have hone := hd (DType.enc_one [⟨t.of, t.name, t.no, t.must, up, t.most⟩])
  have hsn := hd (map_snocT out ⟨t.of, t.name, t.no, t.must, up, t.most⟩)
  have hbd := hd ((Below.refl w.heap.size w).drew)
  have hctk := hd (fun j (h : j < t.parts.length) => countL_take h)
  clear hR
  generalize t.parts = ps at *
  generalize t.of = o at *
  generalize t.name = nm at *
  generalize t.no = no at *
  generalize t.must = mu at *
  generalize t.most = mo at *
  go_enter Try.func100, Try.ntmps100
  go_upto_region 2 with (fail)
  have hneb : some b ≠ (Value.slice ao out.length co).ownBlock := fun e => hO.out.no (.inl (by omega : b < B)) e.symm
  have hO1 := hd (hO.out.below (below_a1 w (a := .cells #[.int .i64 o, .string nm, .int .i64 no, .bool mu, .int .i64 up, .int .i64 mo] 71)))
  have hcn := hd (cells_new w [.int .i64 o, .string nm, .int .i64 no, .bool mu, .int .i64 up, .int .i64 mo] 71)
  go_region_held3 (fun w' => w'.cell? ⟨b, 0, none⟩ = some (.int .i64 o) ∧ w'.cell? ⟨b, 1, none⟩ = some (.string nm) ∧ w'.cell? ⟨b, 2, none⟩ = some (.int .i64 no) ∧ w'.cell? ⟨b, 3, none⟩ = some (.bool mu) ∧ w'.cell? ⟨b, 4, none⟩ = some (.int .i64 mo))
    (first
      | go_keep
      | (go_split_ands; refine ⟨?_, ?_, ?_, ?_, ?_⟩ <;> exact hga.cell (by assumption) hneb))
    ((refine step_appOwn (by rfl) _ _ _ (by rfl) B 71 i0 _ 6 56 Try.underlying26 Hi.out Hz0.out Hz1.out Hz2.out (by rfl) (by decide) _ (out.map DType.enc) [DType.enc ⟨o, nm, no, mu, up, mo⟩] (by rfl) (by exact hO1.out) _ 1 _ (by rfl) (by rfl) (one_row rfl) hcn.out hone.out (by simp only [List.length_map]; omega) (by decide) (by simp; omega) ?_; intro v6 w6 ho6 hga hva))
  rw [hsn.out, ← hzero.out] at ho6
  replace ho6 := hd ho6
  have hGG := hd ((Gr.of_below (v := .slice ao out.length co) (below_a1 w (a := .cells #[.int .i64 o, .string nm, .int .i64 no, .bool mu, .int .i64 up, .int .i64 mo] 71)).drew).trans (Gr.app hga hva))
  have hBz := hd (hGG.out.below hB (fun g hg => (hO.out.lt g hg).1))
  have q6 := hBz.out.cell (p := ⟨b, 5, none⟩) (by show b < B; omega)
  rw [c5] at q6
  have hS6 := hd (hS.same (Same.belowB hBz.out hhB) (Nat.le_refl _) (Nat.le_refl _) : PSl w6 lo hi _ _)
  have hR6 := hd (fun j (h : j < ps.length) (h' : j < vs.length) => (hg.out j h h').same (Same.belowB hBz.out hhB) (Nat.le_refl _) (Nat.le_refl _) ps[j] vs[j])
  have hz6 : B ≤ w6.heap.size := Nat.le_trans hB hGG.out.1.size
  clear c0 c1 c2 c3 c4 c5 hO hg hS hbd hga hva hneb hO1 hcn
  go_wp2_with fail
  go_loopw [1, 42] (fun s n wr => ∃ (sv : Value) (j : Nat), sv = s ∧ j ≤ ps.length ∧ n = .int .i64 j ∧ Hd (Own wr B 71 6 s ((upTo out ⟨o, nm, no, mu, up, mo⟩ ps j).map DType.enc)) ∧ Hd (Gr w6 v6 wr s)) (fun _ n _ => ps.length - (intOf n).toNat)
  case atStart => exact ⟨_, 0, rfl, Nat.zero_le _, rfl, ho6.out, Gr.refl _ _⟩
  case round =>
    obtain ⟨s, j, rfl, hj, rfl, hOr, hGr⟩ := hrel
    obtain ⟨wo, rfl⟩ : ∃ wo : World, wo = wr := ⟨_, rfl⟩
    have hBr := hd (hGr.out.below hz6 (fun g hg => (ho6.out.lt g hg).1))
    have hzr : B ≤ wo.heap.size := Nat.le_trans hz6 hGr.out.1.size
    by_cases hlt : j < ps.length
    · have hltI : (j : Int) < (ps.length : Int) := by omega
      obtain ⟨b1, o1, rfl, hb1, hc1⟩ := hS6.out.at (j := j) (by omega)
      have qj := hc1 j (by omega)
      rw [← hBr.out.cell (p := ⟨b1, o1 + j, none⟩) (by show b1 < B; omega)] at qj
      have hlj := hlen.out j
      have hck := hctk.out j hlt
      have hcle := hcl.out (j + 1)
      have ci := hd (ih.out ps[j] (List.getElem_mem hlt) vs[j] (upTo out ⟨o, nm, no, mu, up, mo⟩ ps j) s out.length wo lo hi B hhB hzr (by omega) ((hR6.out j hlt (by omega)).same (Same.belowB hBr.out hhB) (Nat.le_refl _) (Nat.le_refl _) _ _) hOr.out)
      rw [← hstep.out j hlt] at ci
      generalize vs[j] = u at *
      clear hc1 hlj hck hcle
      go_wp2_with fail
      refine ci.out.mono ?_
      rintro e w8 ⟨s8, rfl, ho8, hg8⟩
      have hG8 := hd (hGr.out.trans hg8)
      replace ho8 := hd ho8
      clear hg8
      go_wp2_with fail
      go_roundw
      case rel => exact ⟨s8, j + 1, rfl, by omega, by go_num, ho8, hG8⟩
      case measure => simp [intOf]; omega
    · obtain rfl : j = ps.length := by omega
      have hltI : ¬ (ps.length : Int) < (ps.length : Int) := by omega
      rw [hend.out] at hOr
      go_wp2_with fail
      go_ret
      exact ⟨s, rfl, by first | exact hOr.out | (rw [← List.map_append]; exact hOr.out), hGG.out.trans hGr.out⟩
end Go.Proofs.Ytobahkjbadamhaa
/- The rows of a tree of types behind others: l2Flat of the reference. -/
namespace Go.Proofs.Ytobahkjbadamhaa
open Go.RowKit
set_option linter.unusedVariables false
set_option maxRecDepth 100000
theorem Gr.boxN {w w' : World} {v v' : Value} {b : Nat} {cs : List Value} (h : Gr w v w' v') (hX : BoxN w b cs) (hne : v.ownBlock ≠ some b) : BoxN w' b cs := hX.grown h.1 (fun e => hne e.symm)
set_option maxHeartbeats 3200000 in
theorem flat_s (t : K) : ∀ (r : List Value) (out : List DType) (v : Value) (up : Int) (w : World) (lo hi B : Nat), hi ≤ B → B ≤ w.heap.size → out.length + countK t ≤ 1000000 → RepT w lo hi t r → Own w B 71 6 v (out.map DType.enc) →
    Calls Try.prog 96 #[.agg r.toArray, .int .i64 up, v] w (GrPost B 71 6 ((out ++ rowsK t up out.length).map DType.enc) v w) := by
  refine K.ind2 (P := fun t => ∀ (r : List Value) (out : List DType) (v : Value) (up : Int) (w : World) (lo hi B : Nat), hi ≤ B → B ≤ w.heap.size → out.length + countK t ≤ 1000000 → RepT w lo hi t r → Own w B 71 6 v (out.map DType.enc) →
    Calls Try.prog 96 #[.agg r.toArray, .int .i64 up, v] w (GrPost B 71 6 ((out ++ rowsK t up out.length).map DType.enc) v w)) ?_ t
  intro t ih r out v up w lo hi B hhB hB hc hR hO
  have ih := hd ih
  rw [countK_eq] at hc
  have hend := hd (upTo_end out t up)
  obtain ⟨a, c, rows, rfl, hS, hl, hg⟩ := hR.open
  have hg := hd hg
  have hS := hd hS
  obtain ⟨ao, co, rfl, _⟩ := hO.sl
  simp only [List.length_map] at hO ⊢
  have hO := hd hO
  obtain ⟨i0, hi0, hz0, hz1, hz2⟩ := info_parts infoType
  have Hi := hd hi0; have Hz0 := hd hz0; have Hz1 := hd hz1; have Hz2 := hd hz2
  clear hi0 hz0 hz1 hz2
  have hpl := len_count t.parts
  have hstep := hd (fun j (h : j < t.parts.length) => upTo_step h out ⟨t.of, t.name, t.no, t.must, up, t.most⟩)
  have hlen := hd (upTo_len out ⟨t.of, t.name, t.no, t.must, up, t.most⟩ t.parts)
  have hzero := hd (upTo_zero out ⟨t.of, t.name, t.no, t.must, up, t.most⟩ t.parts)
  have hcl := hd (countL_le t.parts)
  have hone := hd (DType.enc_one [⟨t.of, t.name, t.no, t.must, up, t.most⟩])
  have hsn := hd (map_snocT out ⟨t.of, t.name, t.no, t.must, up, t.most⟩)
  have hctk := hd (fun j (h : j < t.parts.length) => countL_take h)
  clear hR
  generalize t.parts = ps at *
  generalize t.of = o at *
  generalize t.name = nm at *
  generalize t.no = no at *
  generalize t.must = mu at *
  generalize t.most = mo at *
  have hX := hd (show BoxN (w.alloc (.cells #[.int .i64 o, .string nm, .int .i64 no, .bool mu, .int .i64 mo, .slice a ps.length c] 74)) w.heap.size [.int .i64 o, .string nm, .int .i64 no, .bool mu, .int .i64 mo, .slice a ps.length c] from BoxN.new w _ _)
  have hbd := hd (below_a1 w (a := .cells #[.int .i64 o, .string nm, .int .i64 no, .bool mu, .int .i64 mo, .slice a ps.length c] 74))
  have hsW : w.heap.size + 1 ≤ (w.alloc (.cells #[.int .i64 o, .string nm, .int .i64 no, .bool mu, .int .i64 mo, .slice a ps.length c] 74)).heap.size := by simp
  go_enter Try.func96, Try.ntmps96
  go_upto_region 2 with (fail)
  generalize w.alloc (.cells #[.int .i64 o, .string nm, .int .i64 no, .bool mu, .int .i64 mo, .slice a ps.length c] 74) = W at *
  have hO1 := hd (hO.out.below hbd.out)
  have hg1 := hd (fun j (h : j < ps.length) (h' : j < rows.length) => (hg.out j h h').below (by omega) hbd.out)
  have hS1 := hd (hS.out.same (Same.below hbd.out (by omega)) (Nat.le_refl _) (Nat.le_refl _) : RSl W lo hi _ _)
  have hB1 : B ≤ W.heap.size := by omega
  have hG1 := hd (Gr.of_below (v := .slice ao out.length co) hbd.out)
  have hno := hd (hO.out.no (b := w.heap.size) (.inr (Nat.le_refl _)))
  have x0 := hX.out.1 0 _ rfl; have x1 := hX.out.1 1 _ rfl; have x2 := hX.out.1 2 _ rfl; have x3 := hX.out.1 3 _ rfl; have x4 := hX.out.1 4 _ rfl; have x5 := hX.out.1 5 _ rfl
  clear hO hg hS hB hbd
  go_wp2_with (at_builtin; refine wpList_appOwn rfl (.tmp 12) (.tmp 25) 26 rfl B 71 i0 _ 6 56 Try.underlying26 Hi.out Hz0.out Hz1.out Hz2.out rfl (by decide) _ (out.map DType.enc) [DType.enc ⟨o, nm, no, mu, up, mo⟩] rfl (hO1.out.below (below_a1 _)) _ 1 1 rfl rfl (one_row rfl) (cells_new _ _ _) hone.out (by simp only [List.length_map]; omega) (by decide) (by first | omega | exact Nat.le_refl _ | (simp; done) | (simp; omega)) ?_; intro v6 w6 ho6 hga hva; have hG6 := hd ((Gr.of_below (v := .slice ao out.length co) (below_a1 W)).trans (Gr.app hga hva)); rw [hsn.out, ← hzero.out] at ho6; have hBz := hd (hG6.out.below hB1 (fun g hg => (hO1.out.lt g hg).1)); have hX6 := hd (hG6.out.boxN hX.out hno.out); have y5 := hX6.out.1 5 _ rfl; replace ho6 := hd ho6; clear hga hva x0 x1 x2 x3 x4 x5)
  have hGG := hd (hG1.out.trans hG6.out)
  have hS6 := hd (hS1.out.same (Same.belowB hBz.out hhB) (Nat.le_refl _) (Nat.le_refl _) : RSl w6 lo hi _ _)
  have hR6 := hd (fun j (h : j < ps.length) (h' : j < rows.length) => (hg1.out j h h').same (Same.belowB hBz.out hhB) (Nat.le_refl _) (Nat.le_refl _) ps[j] rows[j])
  have hz6 : B ≤ w6.heap.size := Nat.le_trans hB1 hG6.out.1.size
  clear hO1 hg1 hS1 hG1 hG6 hBz
  go_wp2_with fail
  go_loopw [2, 30] (fun s n wr => ∃ (sv : Value) (j : Nat), sv = s ∧ j ≤ ps.length ∧ n = .int .i64 j ∧ Hd (Own wr B 71 6 s ((upTo out ⟨o, nm, no, mu, up, mo⟩ ps j).map DType.enc)) ∧ Hd (Gr w6 v6 wr s)) (fun _ n _ => ps.length - (intOf n).toNat)
  case atStart => exact ⟨_, 0, rfl, Nat.zero_le _, rfl, ho6.out, Gr.refl _ _⟩
  case round =>
    obtain ⟨s, j, rfl, hj, rfl, hOr, hGr⟩ := hrel
    obtain ⟨wo, rfl⟩ : ∃ wo : World, wo = wr := ⟨_, rfl⟩
    have hBr := hd (hGr.out.below hz6 (fun g hg => (ho6.out.lt g hg).1))
    have hzr : B ≤ wo.heap.size := Nat.le_trans hz6 hGr.out.1.size
    by_cases hlt : j < ps.length
    · have hltI : (j : Int) < (ps.length : Int) := by omega
      obtain ⟨b1, rfl, hb1, hc1⟩ := hS6.out.at (j := j) (by omega)
      have hp := (hR6.out j hlt (by omega)).same (Same.belowB hBr.out hhB) (Nat.le_refl _) (Nat.le_refl _) _ _
      obtain ⟨ak, ck, rowsk, hrk, _⟩ := hp.open
      have hck := hc1 j (by omega)
      have hlj := hlen.out j
      have hctj := hctk.out j hlt
      have hcle := hcl.out (j + 1)
      have ci := hd (fun w' (hb : Below wo.heap.size wo w') => ih.out ps[j] (List.getElem_mem hlt) rows[j] (upTo out ⟨o, nm, no, mu, up, mo⟩ ps j) s out.length w' lo hi B hhB (Nat.le_trans hzr hb.size) (by omega) (hp.below (by omega) hb) (hOr.out.below hb))
      rw [← hstep.out j hlt] at ci
      rw [hrk] at hck ci
      have kb := fun o u (h : w6.cell? ⟨b1, o, none⟩ = some u) => (show wo.cell? ⟨b1, o, none⟩ = some u from by rw [hBr.out.cell (p := ⟨b1, o, none⟩) (by show b1 < B; omega)]; exact h)
      have d0 := kb _ _ (show w6.cell? ⟨b1, j * 6, none⟩ = _ from hck 0 _ rfl)
      have d1 := kb _ _ (hck 1 _ rfl)
      have d2 := kb _ _ (hck 2 _ rfl)
      have d3 := kb _ _ (hck 3 _ rfl)
      have d4 := kb _ _ (hck 4 _ rfl)
      have d5 := kb _ _ (hck 5 _ rfl)
      have hgb := hd (fun o => Gr.of_below (v := s) (below_a1 wo (a := o)))
      generalize ps[j] = p at *
      clear hc1 hrk hck hp kb hlj hctj hcle
      go_wp2_with fail
      refine (ci.out _ (below_a1 wo)).mono ?_
      rintro e w8 ⟨s8, rfl, ho8, hg8⟩
      have hG8 := hd (hGr.out.trans ((hgb.out _).trans hg8))
      replace ho8 := hd ho8
      clear hg8
      go_wp2_with fail
      go_roundw
      case rel => exact ⟨s8, j + 1, rfl, by omega, by go_num, ho8, hG8⟩
      case measure => simp [intOf]; omega
    · obtain rfl : j = ps.length := by omega
      have hltI : ¬ (ps.length : Int) < (ps.length : Int) := by omega
      rw [hend.out] at hOr
      go_wp2_with fail
      go_ret
      exact ⟨s, rfl, by first | exact hOr.out | (rw [← List.map_append]; exact hOr.out), hGG.out.trans hGr.out⟩
end Go.Proofs.Ytobahkjbadamhaa
/- A part of a good tree of types is good as a whole: plain. -/
namespace Go.Proofs.Ytobahkjbadamhaa
open Go.RowKit
set_option linter.unusedVariables false
theorem deepL_part {ps : List K} {p : K} (h : p ∈ ps) : deepK p ≤ deepL ps := by
  induction ps with
  | nil => cases h
  | cons q qs ih =>
    rw [deepL]
    rcases List.mem_cons.1 h with rfl | h
    · omega
    · have := ih h; omega
theorem up1_ge (o d : Int) : d ≤ up1 o d := by
  unfold up1
  split <;> omega
theorem in_le {s t : K} (h : InK s t) : countK s ≤ countK t ∧ deepK s ≤ deepK t := by
  induction h with
  | self t => exact ⟨Nat.le_refl _, Int.le_refl _⟩
  | part o nm no mu mo ps p s hp _ ih =>
    have h1 := count_part hp
    have h2 := deepL_part hp
    have h3 := up1_ge o (deepL ps)
    rw [countK, deepK]
    omega
theorem whole_good {s t : K} (h : goodK t) (hi : InK s t) (h5 : s.of = 5) : goodK (wholeK s) := by
  obtain ⟨_, _, hr, hd5, hc⟩ := h
  have hl := in_le hi
  have e1 : (wholeK s).of = 5 := by cases s; exact h5
  have e2 : deepK (wholeK s) = deepK s := by obtain ⟨o, nm, no, mu, mo, ps⟩ := s; rw [wholeK, deepK, deepK]
  have e3 : countK (wholeK s) = countK s := by obtain ⟨o, nm, no, mu, mo, ps⟩ := s; rw [wholeK, countK, countK]
  exact ⟨e1, by cases s; exact ⟨rfl, rfl, rfl⟩, whole_right (rightK.in hi hr), by omega, by omega⟩
mutual
/-- What two types have in common as types. -/
def joinK : K → K → Option K
  | .mk o nm no mu mo ps => fun b => if o = b.of then (if o = 4 then (joinH ps b).map (fun p => .mk o nm no (mu && b.must) (max mo b.most) [p]) else some (.mk o nm no (mu && b.must) (max mo b.most) (joinL ps b))) else none
def joinH : List K → K → Option K
  | [] => fun _ => none
  | x :: _ => fun b => match b.parts with
    | [] => none
    | y :: _ => joinK x y
def joinL : List K → K → List K
  | [] => fun _ => []
  | x :: xs => fun b => (match b.parts.find? (byNo x.no) with
    | none => []
    | some y => (joinK x y).toList) ++ joinL xs b
end
end Go.Proofs.Ytobahkjbadamhaa
/- A tree of types as a schema: whole, schema of the program; l2Tell of the reference. -/
namespace Go.Proofs.Ytobahkjbadamhaa
open Go.RowKit
set_option linter.unusedVariables false
set_option maxRecDepth 100000
theorem blank_size {nm : ByteArray} {no : Int} {mu : Bool} (h : blankP nm no mu) : nm.size ≤ 10 := by rw [h.1]; decide
theorem right_names {t s : K} (h : InK s t) : rightK t → t.name.size ≤ 10 → s.name.size ≤ 10 := by
  induction h with
  | self t => intro _ h; exact h
  | part o nm no mu mo ps p s hp _ ih =>
    intro hr _
    obtain ⟨_, h2, h3⟩ := hr.ok
    refine ih (h3 p hp) ?_
    have hpo := h2 p hp
    by_cases h5 : o = 5
    · exact (hpo.1 h5).1.2.2
    · exact blank_size (hpo.2 h5)
theorem good_nm {t : K} (h : goodK t) : nmOK t := fun s hs => by
  have := right_names hs h.2.2.1 (blank_size h.2.1)
  omega
theorem good_small {t : K} (h : goodK t) : countK t ≤ 30 := h.2.2.2.2
theorem rowsL_names (q0 : Nat) : ∀ ps : List K, (∀ p ∈ ps, ∀ up q, ∀ x ∈ rowsK p up q, x.name.size ≤ 1000000000000) → ∀ q, ∀ x ∈ rowsL ps q0 q, x.name.size ≤ 1000000000000 := by
  intro ps
  induction ps with
  | nil => intro _ q x hx; rw [rowsL] at hx; cases hx
  | cons p ps ih =>
    intro h q x hx
    rw [rowsL, List.mem_append] at hx
    rcases hx with hx | hx
    · exact h p (by simp) _ _ x hx
    · exact ih (fun p' hp' => h p' (by simp [hp'])) _ x hx
theorem rows_names (t : K) : nmOK t → ∀ up q, ∀ x ∈ rowsK t up q, x.name.size ≤ 1000000000000 := by
  refine K.ind2 (P := fun t => nmOK t → ∀ up q, ∀ x ∈ rowsK t up q, x.name.size ≤ 1000000000000) ?_ t
  intro t ih hn up q x hx
  rw [rowsK_eq] at hx
  rcases List.mem_cons.1 hx with rfl | hx
  · exact hn.self
  · exact rowsL_names q t.parts (fun p hp up q x hx => ih p hp (hn.part hp) up q x hx) _ x hx
set_option maxHeartbeats 1600000 in
theorem whole_i (t : K) (vt : Value) (w : World) (lo hi : Nat) (hlo : lo ≤ w.heap.size) (hh : hi ≤ w.heap.size) (h : RepP w lo hi t vt) :
    Calls Try.prog 57 #[vt] w (fun e w' => ∃ v, e = .returned v ∧ RepP w' lo w'.heap.size (wholeK t) v ∧ Below w.heap.size w w') := by
  obtain ⟨b, a, c, vs, rfl, hb, c0, c1, c2, c3, c4, c5, hS, hl, hg⟩ := h.open
  have hfin := hd (show RepP (w.drew.alloc (.cells #[.int .i64 t.of, .string ⟨#[]⟩, .int .i64 0, .bool false, .int .i64 t.most, .slice a t.parts.length c] 117)) lo (w.drew.alloc (.cells #[.int .i64 t.of, .string ⟨#[]⟩, .int .i64 0, .bool false, .int .i64 t.most, .slice a t.parts.length c] 117)).heap.size (wholeK t) (.pointer (some ⟨w.heap.size, 0, none⟩)) from by
    have hB : Below w.heap.size w (w.drew.alloc (.cells #[.int .i64 t.of, .string ⟨#[]⟩, .int .i64 0, .bool false, .int .i64 t.most, .slice a t.parts.length c] 117)) := ((Below.refl _ w).drew).next (below_a1 _)
    have hX : BoxN (w.drew.alloc (.cells #[.int .i64 t.of, .string ⟨#[]⟩, .int .i64 0, .bool false, .int .i64 t.most, .slice a t.parts.length c] 117)) w.heap.size [.int .i64 t.of, .string ⟨#[]⟩, .int .i64 0, .bool false, .int .i64 t.most, .slice a t.parts.length c] := BoxN.new w.drew _ _
    have hz := hX.2.2
    obtain ⟨o, nm, no, mu, mo, ps⟩ := t
    rw [wholeK, RepP]
    refine ⟨w.heap.size, .slice a ps.length c, vs, rfl, ⟨hlo, hz⟩, ⟨hX.1 0 _ rfl, hX.1 1 _ rfl, hX.1 2 _ rfl, hX.1 3 _ rfl, hX.1 4 _ rfl, hX.1 5 _ rfl⟩, hS.same (Same.below hB hh) (Nat.le_refl _) (by omega), ?_⟩
    exact RepL.mk ps vs hl (fun j h1 h2 => (hg j h1 h2).same (Same.below hB hh) (Nat.le_refl _) (by omega) _ _))
  have hB := hd (show Below w.heap.size w (w.drew.alloc (.cells #[.int .i64 t.of, .string ⟨#[]⟩, .int .i64 0, .bool false, .int .i64 t.most, .slice a t.parts.length c] 117)) from ((Below.refl _ w).drew).next (below_a1 _))
  clear h hg hS hl
  generalize hps : t.parts.length = n at *
  generalize t.of = o at *
  generalize t.most = mo at *
  replace hps := hd hps
  go_enter Try.func57, Try.ntmps57
  go_upto_region 1 with (fail)
  go_still_tail 12, (by kernel_rfl)
  change wpList _ _ _ _ _ w.drew
  go_wp2_with fail
  go_ret
  exact ⟨_, rfl, hfin.out, hB.out⟩
theorem ownR_store {w : World} {b o B B2 E sz : Nat} {v u : Value} {rows : List (List Value)} {rb : Option Nat} (h : OwnR w B E sz v rows rb) (hB : B2 ≤ B) (hb : b < B) : OwnR (w.setCell ⟨b, o, none⟩ u) B2 E sz v rows rb := by
  have h2 := h.kept (grownBy_setCell w ⟨b, o, none⟩ u) (by
    cases hrb : rb with
    | none => exact .inl rfl
    | some g => right; intro e; have := (h.lt g hrb).1; have e2 : g = b := Option.some.inj e; omega)
  rcases h2 with ⟨g1, g2⟩ | g
  · exact .inl ⟨g1, g2.weaken hB⟩
  · exact .inr g
theorem AggbPost.of {E : TypeId} {sz : Nat} {rows : List (List Value)} {b : Bool} {w w' : World} {v : Value} {rb : Option Nat} (h1 : OwnR w' w.heap.size E sz v rows rb) (h2 : Below w.heap.size w w') : AggbPost E sz rows b w (.returned (.tuple #[.agg #[v], .bool b])) w' := ⟨v, rb, rfl, h1, h2⟩
set_option maxHeartbeats 1600000 in
theorem schema_i (t : K) (vt : Value) (w : World) (lo hi : Nat) (hh : hi ≤ w.heap.size) (hgd : goodK t) (h : RepP w lo hi t vt) :
    Calls Try.prog 58 #[vt] w (AggbPost 71 6 ((rowsK t (-1) 0).map DType.enc) true w) := by
  have hsm := good_small hgd
  have cg := hd (fun w' (hb : Below w.heap.size w w') => good_i t vt w' lo hi (Nat.le_trans hh hb.size) (by omega) (good_nm hgd) (h.below hh hb) true (by simp [hgd]))
  have ct := hd (fun w' (hb : Below w.heap.size w w') => types_i t vt [] (.slice none 0 0) (-1) w' lo hi w'.heap.size (Nat.le_trans hh hb.size) (Nat.le_refl _) (by simp; omega) (h.below hh hb) Own.nil)
  have hlen : (rowsK t (-1) 0).length ≤ 30 := by rw [rows_count]; exact hsm
  obtain ⟨bp, _, _, _, rfl, hjk⟩ := h.open
  clear hjk
  simp only [List.nil_append, List.length_nil] at ct
  clear hgd h
  generalize rowsK t (-1) 0 = R at *
  go_enter Try.func58, Try.ntmps58
  go_wp2_with fail
  refine (cg.out _ (below_a1 _)).mono ?_
  rintro e w2 ⟨rfl, hb2⟩
  have hx2 := hd (Box1.below (b := w.heap.size) (v := .slice none 0 0) ⟨by go_simp, by go_simp⟩ hb2)
  have hB := hd ((below_a1 w).next hb2)
  have hz2 : w.heap.size ≤ w2.heap.size := hB.out.size
  clear hb2
  go_wp2_with fail
  refine (ct.out _ hB.out).mono ?_
  rintro e w3 ⟨v3, rfl, ho3, hG3⟩
  have hB23 := hd (hG3.below (B := w2.heap.size) (Nat.le_refl _) (by intro g hg; cases hg))
  have hx3 := hd (hx2.out.below hB23.out)
  have hB3 := hd (hB.out.next hB23.out)
  obtain ⟨a3, c3, rfl, _⟩ := ho3.sl
  simp only [List.length_map] at ho3 ⊢
  have Q1 := hx3.out.1; have Q2 := hx3.out.2
  have hlx := hx2.out.lt
  replace ho3 := hd ho3
  clear hG3
  go_wp2_with fail
  refine bodyPost_ret (v := .tuple #[.agg #[.slice a3 R.length c3], .bool true]) (by simp [results, Try.results58, go_sem, Q1]) rfl (AggbPost.of (rb := (Value.slice a3 R.length c3).ownBlock) ?_ ?_)
  · exact ((ho3.out.weaken hz2).kept (grownBy_setCell _ _ _) (own_ne (B := w.heap.size) (fun k hk => by have := (ho3.out.lt k hk).1; omega) (Nat.le_refl _))).r
  · exact hB3.out.setCell (by simp) _
set_option maxHeartbeats 1600000 in
theorem tell_s (t : K) (r : List Value) (w : World) (lo hi : Nat) (hh : hi ≤ w.heap.size) (hgd : goodK t) (h : RepT w lo hi t r) :
    Calls Try.prog 52 #[.agg r.toArray] w (AggbPost 71 6 ((rowsK t (-1) 0).map DType.enc) true w) := by
  have hsm := good_small hgd
  have cf := hd (fun w' (hb : Below w.heap.size w w') => flat_s t r [] (.slice none 0 0) (-1) w' lo hi w'.heap.size (Nat.le_trans hh hb.size) (Nat.le_refl _) (by simp; omega) (h.below hh hb) Own.nil)
  have hlen : (rowsK t (-1) 0).length ≤ 30 := by rw [rows_count]; exact hsm
  have cg := hd (fun v w' (hs : Sl w' v 6 ((rowsK t (-1) 0).map DType.enc)) => GoodSchema_s (rowsK t (-1) 0) v w' (by omega) (rows_names t (good_nm hgd) _ _) hs true (by simp [good_rows hgd]))
  obtain ⟨a, c, rows, rfl, hjk⟩ := h.open
  clear hjk
  simp only [List.nil_append, List.length_nil] at cf
  clear hgd h
  generalize rowsK t (-1) 0 = R at *
  generalize t.parts.length = np at *
  generalize t.of = o at *
  generalize t.name = nm at *
  generalize t.no = no at *
  generalize t.must = mu at *
  generalize t.most = mo at *
  go_enter Try.func52, Try.ntmps52
  go_wp2_with fail
  refine (cf.out _ (below_a2 _)).mono ?_
  rintro e w2 ⟨v2, rfl, ho2, hG2⟩
  have hb2 := hd (hG2.below (B := ((w.alloc (.cells #[.int .i64 o, .string nm, .int .i64 no, .bool mu, .int .i64 mo, .slice a np c] 74)).alloc (.cells #[.slice none 0 0] 28)).heap.size) (Nat.le_refl _) (by intro g hg; cases hg))
  have hx2 := hd (Box1.below (b := w.heap.size + 1) (v := .slice none 0 0) ⟨by go_simp, by go_simp⟩ hb2.out)
  have hB := hd ((below_a2 w).next hb2.out)
  have hz2 : w.heap.size + 2 ≤ w2.heap.size := by have := hb2.out.size; simp at this; omega
  obtain ⟨a2, c2, rfl, _⟩ := ho2.sl
  simp only [List.length_map] at ho2 ⊢
  have ho2 := hd (ho2.weaken (B' := w.heap.size + 2) (by simp))
  clear hG2 hb2
  have hxa := hd (hx2.out.below (below_a1 w2 (a := .cells #[.slice a2 R.length c2] 28)))
  have hBa := hd (hB.out.next (below_a1 w2 (a := .cells #[.slice a2 R.length c2] 28)))
  have hoa := hd (ho2.out.below (below_a1 w2 (a := .cells #[.slice a2 R.length c2] 28)))
  go_wp2_with fail
  refine (cg.out _ _ hoa.out.sl).mono ?_
  rintro e w3 ⟨rfl, hb3⟩
  have q3 := keepCell hb3 (show World.cell? _ ⟨w2.heap.size, 0, none⟩ = some (.slice a2 R.length c2) by go_simp)
  have hx3 := hd (hxa.out.below hb3)
  have hB3 := hd (hBa.out.next hb3)
  have ho3 := hd (hoa.out.below hb3)
  have Q1 := hx3.out.1; have Q2 := hx3.out.2
  clear hb3 hxa hBa hoa
  go_wp2_with fail
  refine bodyPost_ret (v := .tuple #[.agg #[.slice a2 R.length c2], .bool true]) (by simp [results, Try.results52, go_sem, Q1]) rfl (AggbPost.of (rb := (Value.slice a2 R.length c2).ownBlock) ?_ ?_)
  · exact ((ho3.out.weaken (by omega)).kept (grownBy_setCell _ _ _) (own_ne (B := w.heap.size + 1) (fun k hk => by have := (ho3.out.lt k hk).1; omega) (Nat.le_refl _))).r
  · exact hB3.out.setCell (by simp) _
end Go.Proofs.Ytobahkjbadamhaa
/- SubSchema of both sides. -/
namespace Go.Proofs.Ytobahkjbadamhaa
open Go.RowKit
set_option linter.unusedVariables false
set_option maxRecDepth 100000
theorem Out.stuck {l : List DType} {a e : Nat} (hw : ∀ i, i < l.length → U l i < (i : Int)) (he : 0 < e) (hel : e ≤ l.length) (h : Out l a e) : Stuck l a e := by
  intro b hb hA hho hu
  obtain ⟨hbl, _⟩ := hho
  have hle := hA.le (n := e - 1) (fun i hi => hw i (by omega)) (Nat.le_refl _)
  have hlt := U_lt hu
  rcases h e (Nat.le_refl _) hlt with g | g <;> omega
def subC (l : List DType) (k : Int) : Prop := goodP l ∧ 0 ≤ k ∧ k < (l.length : Int) ∧ ∃ h : k.toNat < l.length, l[k.toNat].kind = 5
def subP (l : List DType) (k : Int) (b : Bool) (r : List DType) : Prop := (b = true ↔ subC l k) ∧ (b = true → ∃ t, Sb l k.toNat t ∧ goodK (wholeK t) ∧ r = rowsK (wholeK t) (-1) 0) ∧ (b = false → r = [])
theorem sub_part {l : List DType} {k : Nat} (hg : goodP l) (hk : k < l.length) : ∃ t r, treeOf l r ∧ Sb l k t ∧ InK t r := by
  obtain ⟨r, hr⟩ := good_tree hg
  obtain ⟨t, h1, h2⟩ := enc_in r _ _ hr.1 (fun i h1 h2 => by omega) k (Nat.zero_le _) hk
  exact ⟨t, r, hr, h1, h2⟩
theorem good_up3 {l : List DType} (h : goodP l) : ∀ i, i < l.length → U l i < (i : Int) := preL_up ((flat_iff h.1.1).1 h.1).1 (Nat.le_refl _)
theorem subP_ex (l : List DType) (k : Int) : ∃ b r, subP l k b r ∧ r.length ≤ 30 := by
  by_cases h : subC l k
  · obtain ⟨hg, h0, h1, hk, h5⟩ := h
    obtain ⟨t, r, hr, hS, hI⟩ := sub_part hg hk
    have hw : goodK (wholeK t) := whole_good hr.2 hI (by
      obtain ⟨_, ⟨e1, _⟩, _⟩ := hS.at
      rw [← e1]; exact h5)
    refine ⟨true, rowsK (wholeK t) (-1) 0, ⟨⟨fun _ => ⟨hg, h0, h1, hk, h5⟩, fun _ => rfl⟩, fun _ => ⟨t, hS, hw, rfl⟩, fun e => by cases e⟩, ?_⟩
    rw [rows_count]; exact good_small hw
  · exact ⟨false, [], ⟨⟨(by intro e; cases e), fun g => absurd g h⟩, (by intro e; cases e), fun _ => rfl⟩, by simp⟩
theorem subP_true {l : List DType} {k : Int} {r : List DType} (h : subP l k true r) : ∃ (j : Nat) (t : K) (e : Nat), k = (j : Int) ∧ ∃ hj : j < l.length, l[j].kind = 5 ∧ goodP l ∧ Sb l j t ∧ enc l t j e ∧ Stuck l j e ∧ goodK (wholeK t) ∧ r = rowsK (wholeK t) (-1) 0 ∧ countK t ≤ 30 := by
  obtain ⟨h1, h2, _⟩ := h
  obtain ⟨hg, h0, hkl, hk, h5⟩ := h1.1 rfl
  obtain ⟨t, hS, hw, hr⟩ := h2 rfl
  obtain ⟨e, he, ho⟩ := hS
  have hbd := enc_bd t _ _ he
  refine ⟨k.toNat, t, e, by omega, hk, h5, hg, ⟨e, he, ho⟩, he, ho.stuck (good_up3 hg) (by have := hbd.1; omega) hbd.2.1, hw, hr, ?_⟩
  have := good_small hw
  obtain ⟨o, nm, no, mu, mo, ps⟩ := t
  rw [wholeK, countK] at this
  rw [countK]; exact this
theorem nb {b : Bool} {P : Prop} (h : b = true ↔ P) (hn : ¬ P) : b = false := by rw [← Bool.not_eq_true, h]; exact hn
set_option maxHeartbeats 3200000 in
theorem SubSchema_i (l : List DType) (k : Int) (v : Value) (w : World) (hl : l.length ≤ 1000000000) (hs : ∀ x ∈ l, x.name.size ≤ 1000000000000) (h : Sl w v 6 (l.map DType.enc)) (b : Bool) (r : List DType) (hr : subP l k b r) :
    Calls Try.prog 17 #[.agg #[v], .int .i64 k] w (AggbPost 71 6 (r.map DType.enc) b w) := by
  obtain ⟨g, hg⟩ := boolOf (goodP l)
  have cg := hd (fun w' (hbb : Below w.heap.size w w') => GoodSchema_i l v w' (by omega) hs (h.mono hbb) g hg)
  obtain ⟨a1, c1, rfl, hrr⟩ := h
  have hrr := hd hrr
  simp only [List.length_map] at cg ⊢
  have hw1 : IntKind.i64.wrap ((l.length : Int) - 1) = (l.length : Int) - 1 := IntWalk.i64_in _ (by omega)
  cases g with
  | false =>
    have hbf := hd (nb hr.1 (fun q => absurd (hg.2 q.1) (by simp)))
    have hrf := hd (hr.2.2 hbf.out)
    clear hr hg
    go_enter Try.func17, Try.ntmps17
    go_wp2_with fail
    refine (cg.out _ (below_a2 _)).mono ?_
    rintro e w2 ⟨rfl, hb2⟩
    have hx2 := Box1.below (b := w.heap.size + 1) (v := .slice none 0 0) ⟨by go_simp, by go_simp⟩ hb2
    have Q1 := hx2.1; have Q2 := hx2.2
    have hB := hd ((below_a2 w).next hb2)
    clear hb2 hx2
    go_wp2_with fail
    refine bodyPost_ret (v := .tuple #[.agg #[.slice none 0 0], .bool false]) (by simp [results, Try.results17, go_sem, Q1]) rfl ⟨_, none, by rw [hbf.out], by rw [hrf.out]; exact OwnR.nil, ?_⟩
    exact hB.out.setCell (by simp) _
  | true =>
    by_cases hkk : 0 ≤ k ∧ k ≤ (l.length : Int) - 1
    · obtain ⟨j, rfl⟩ := Int.eq_ofNat_of_zero_le hkk.1
      have hjl : j < l.length := by omega
      have hjI : (j : Int) < (l.length : Int) := by omega
      have cw := hd (fun w => within_i (j : Int) 0 ((l.length : Int) - 1) w true (by simpa using hkk))
      obtain ⟨b1, o1, rfl, C1⟩ := rows_at hrr.out (k := j) (by rw [List.length_map]; exact hjl)
      by_cases h5 : l[j].kind = 5
      · have hbt := hd (show b = true from hr.1.2 ⟨hg.1 rfl, by omega, by omega, by simpa using hjl, by simpa using h5⟩)
        obtain ⟨j', t, e, hj', _, _, hgp, hS, he, hst, hw, hrr2, hct⟩ := subP_true (by rw [← hbt.out]; exact hr)
        obtain rfl : j = j' := by omega
        have hrt := hd hrr2
        have C := hd C1
        have ck := hd (fun w' (hb : Below w.heap.size w w') => kindFrom_i l b1 o1 c1 (by have := (good_len' hgp).2; omega) t j e w' he hst (C.out.mono hb))
        have hw := hd hw
        obtain ⟨f0, f1, f2, f3, f4, f5⟩ := Cells.rowType l j hjl C1
        rw [h5] at f0
        clear hr hg hkk hj' hrr2 hgp hS he hst C1 h5 hrr f1 f2 f3 f4 f5 hct
        go_enter Try.func17, Try.ntmps17
        go_wp2_with fail
        refine (cg.out _ (below_a2 _)).mono ?_
        rintro e2 w2 ⟨rfl, hb2⟩
        have q := keepCell hb2 (show World.cell? _ ⟨w.heap.size, 0, none⟩ = some (.slice (some ⟨b1, o1, none⟩) l.length c1) by go_simp)
        have hx2 := hd (Box1.below (b := w.heap.size + 1) (v := .slice none 0 0) ⟨by go_simp, by go_simp⟩ hb2)
        have hB := hd ((below_a2 w).next hb2)
        have f02 := keepCell hB.out f0
        have hz2 : w.heap.size + 2 ≤ w2.heap.size := by have := hb2.size; simpa using this
        clear hb2 f0
        go_wp2_with fail
        refine (cw.out _).mono ?_
        rintro e3 w' ⟨rfl, rfl⟩
        go_wp2_with fail
        refine (ck.out _ hB.out).mono ?_
        rintro e4 w4 ⟨vp, rfl, hrp, hb4⟩
        obtain ⟨bp, _, _, _, rfl, _⟩ := hrp.open
        have hx4 := hd (hx2.out.below hb4)
        have hB4 := hd (hB.out.next hb4)
        have cwh := hd (whole_i t _ w4 _ _ hb4.size (Nat.le_refl _) hrp)
        have hb4z := hb4.size
        clear hb4 hrp q f02
        go_wp2_with fail
        refine cwh.out.mono ?_
        rintro e5 w5 ⟨v5, rfl, hr5, hb5⟩
        have cs := hd (schema_i (wholeK t) v5 w5 _ _ (Nat.le_refl _) hw.out hr5)
        obtain ⟨bp5, _, _, _, rfl, _⟩ := hr5.open
        have hx5 := hd (hx4.out.below hb5)
        have hB5 := hd (hB4.out.next hb5)
        have hb5z := hb5.size
        clear hb5 hr5
        go_wp2_with fail
        refine cs.out.mono ?_
        rintro e6 w6 ⟨v6, rb6, rfl, ho6, hb6⟩
        have hx6 := hd (hx5.out.below hb6)
        have hB6 := hd (hB5.out.next hb6)
        rw [← hrt.out] at ho6
        obtain ⟨a6, c6, rfl, hjk⟩ := ho6.sl
        clear hjk
        simp only [List.length_map] at ho6 ⊢
        have Q1 := hx6.out.1; have Q2 := hx6.out.2
        replace ho6 := hd ho6
        clear hb6
        go_wp2_with fail
        refine bodyPost_ret (v := .tuple #[.agg #[.slice a6 r.length c6], .bool true]) (by simp [results, Try.results17, go_sem, Q1]) rfl ?_
        rw [hbt.out]
        exact AggbPost.of (rb := rb6) (ownR_store ho6.out (by first | omega | (simp; omega)) (by first | omega | (simp; omega))) (hB6.out.setCell (by simp) _)
      · have hbf := hd (nb hr.1 (fun q => h5 (by obtain ⟨_, _, _, hh, q5⟩ := q; simpa using q5)))
        have hrf := hd (hr.2.2 hbf.out)
        obtain ⟨f0, f1, f2, f3, f4, f5⟩ := Cells.rowType l j hjl C1
        have h5b : (l[j].kind != 5) = true := by simpa using h5
        generalize l[j].kind = kk at *
        clear hr hg hkk C1 h5 hrr f1 f2 f3 f4 f5
        go_enter Try.func17, Try.ntmps17
        go_wp2_with fail
        refine (cg.out _ (below_a2 _)).mono ?_
        rintro e2 w2 ⟨rfl, hb2⟩
        have q := keepCell hb2 (show World.cell? _ ⟨w.heap.size, 0, none⟩ = some (.slice (some ⟨b1, o1, none⟩) l.length c1) by go_simp)
        have hx2 := hd (Box1.below (b := w.heap.size + 1) (v := .slice none 0 0) ⟨by go_simp, by go_simp⟩ hb2)
        have hB := hd ((below_a2 w).next hb2)
        have f02 := keepCell hB.out f0
        have Q1 := hx2.out.1; have Q2 := hx2.out.2
        clear hb2 f0
        go_wp2_with fail
        refine (cw.out _).mono ?_
        rintro e3 w' ⟨rfl, rfl⟩
        go_wp2_with fail
        refine bodyPost_ret (v := .tuple #[.agg #[.slice none 0 0], .bool false]) (by simp [results, Try.results17, go_sem, Q1]) rfl ⟨_, none, by rw [hbf.out], by rw [hrf.out]; exact OwnR.nil, ?_⟩
        exact hB.out.setCell (by simp) _
    · have cw := hd (fun w => within_i k 0 ((l.length : Int) - 1) w false (by simp; omega))
      have hbf := hd (nb hr.1 (fun q => hkk ⟨q.2.1, by have := q.2.2.1; omega⟩))
      have hrf := hd (hr.2.2 hbf.out)
      clear hr hg hkk
      go_enter Try.func17, Try.ntmps17
      go_wp2_with fail
      refine (cg.out _ (below_a2 _)).mono ?_
      rintro e w2 ⟨rfl, hb2⟩
      have q := keepCell hb2 (show World.cell? _ ⟨w.heap.size, 0, none⟩ = some (.slice a1 l.length c1) by go_simp)
      have hx2 := Box1.below (b := w.heap.size + 1) (v := .slice none 0 0) ⟨by go_simp, by go_simp⟩ hb2
      have Q1 := hx2.1; have Q2 := hx2.2
      have hB := hd ((below_a2 w).next hb2)
      clear hb2 hx2
      go_wp2_with fail
      refine (cw.out _).mono ?_
      rintro e w' ⟨rfl, rfl⟩
      go_wp2_with fail
      refine bodyPost_ret (v := .tuple #[.agg #[.slice none 0 0], .bool false]) (by simp [results, Try.results17, go_sem, Q1]) rfl ⟨_, none, by rw [hbf.out], by rw [hrf.out]; exact OwnR.nil, ?_⟩
      exact hB.out.setCell (by simp) _
end Go.Proofs.Ytobahkjbadamhaa
/- What two good types have in common is good: plain. -/
namespace Go.Proofs.Ytobahkjbadamhaa
open Go.RowKit
set_option linter.unusedVariables false
def aheadK (x y : K) : Prop := x.name ≠ y.name ∧ x.no < y.no
theorem rising_pw {ps : List K} : risingK ps ↔ ps.Pairwise aheadK := by
  rw [List.pairwise_iff_getElem]
  constructor
  · intro h i j hi hj hij
    exact ⟨(h j hj).1 i hij, rising_lt' h i j hij hj⟩
  · intro h j hj
    exact ⟨fun i hi => (h i j (by omega) hj hi).1, fun i hi => (h i j (by omega) hj (by omega)).2⟩
theorem join_top {a b t : K} (h : joinK a b = some t) : t.of = a.of ∧ a.of = b.of ∧ t.name = a.name ∧ t.no = a.no ∧ t.must = (a.must && b.must) ∧ t.most = max a.most b.most := by
  obtain ⟨o, nm, no, mu, mo, ps⟩ := a
  rw [joinK] at h
  dsimp only at h
  by_cases ho : o = b.of
  · rw [if_pos ho] at h
    by_cases h4 : o = 4
    · rw [if_pos h4] at h
      obtain ⟨p, hp, rfl⟩ := Option.map_eq_some_iff.1 h
      exact ⟨rfl, ho, rfl, rfl, rfl, rfl⟩
    · rw [if_neg h4] at h
      obtain rfl := Option.some.inj h
      exact ⟨rfl, ho, rfl, rfl, rfl, rfl⟩
  · rw [if_neg ho] at h; cases h
theorem joinL_mem (b : K) : ∀ (ps : List K) (z : K), z ∈ joinL ps b → ∃ x y, x ∈ ps ∧ y ∈ b.parts ∧ joinK x y = some z := by
  intro ps
  induction ps with
  | nil => intro z hz; rw [joinL] at hz; cases hz
  | cons p ps ih =>
    intro z hz
    rw [joinL, List.mem_append] at hz
    rcases hz with hz | hz
    · cases hf : b.parts.find? (byNo p.no) with
      | none => rw [hf] at hz; cases hz
      | some y =>
        rw [hf] at hz
        exact ⟨p, y, by simp, List.mem_of_find?_eq_some hf, by simpa using hz⟩
    · obtain ⟨x, y, h1, h2, h3⟩ := ih z hz
      exact ⟨x, y, by simp [h1], h2, h3⟩
theorem joinL_pw (b : K) : ∀ ps : List K, ps.Pairwise aheadK → (joinL ps b).Pairwise aheadK := by
  intro ps
  induction ps with
  | nil => intro _; rw [joinL]; exact .nil
  | cons p ps ih =>
    intro h
    rw [List.pairwise_cons] at h
    rw [joinL, List.pairwise_append]
    refine ⟨?_, ih h.2, ?_⟩
    · cases b.parts.find? (byNo p.no) with
      | none => exact .nil
      | some y => cases hj : joinK p y <;> simp [hj]
    · intro z hz z' hz'
      obtain ⟨x, y, h1, h2, h3⟩ := joinL_mem b ps z' hz'
      cases hf : b.parts.find? (byNo p.no) with
      | none => rw [hf] at hz; cases hz
      | some y0 =>
        rw [hf] at hz
        have t1 := join_top (by simpa using hz : joinK p y0 = some z)
        have t2 := join_top h3
        have g := h.1 x h1
        exact ⟨by rw [t1.2.2.1, t2.2.2.1]; exact g.1, by rw [t1.2.2.2.1, t2.2.2.2.1]; exact g.2⟩
theorem join_count (a : K) : ∀ b t, joinK a b = some t → countK t ≤ countK a ∧ deepK t ≤ deepK a := by
  refine K.ind (P := fun a => ∀ b t, joinK a b = some t → countK t ≤ countK a ∧ deepK t ≤ deepK a) ?_ a
  intro o nm no mu mo ps ih b t h
  rw [joinK] at h
  dsimp only at h
  by_cases ho : o = b.of
  · rw [if_pos ho] at h
    by_cases h4 : o = 4
    · rw [if_pos h4] at h
      obtain ⟨p, hp, rfl⟩ := Option.map_eq_some_iff.1 h
      cases ps with
      | nil => rw [joinH] at hp; cases hp
      | cons x xs =>
        rw [joinH] at hp
        dsimp only at hp
        cases hb : b.parts with
        | nil => rw [hb] at hp; cases hp
        | cons y ys =>
          rw [hb] at hp
          have := ih x (by simp) y p hp
          have hnn := deepL_nn xs
          simp only [countK, countL, deepK, deepL, up1]
          split <;> omega
    · rw [if_neg h4] at h
      obtain rfl := Option.some.inj h
      have hL : countL (joinL ps b) ≤ countL ps ∧ deepL (joinL ps b) ≤ deepL ps := by
        clear h
        induction ps with
        | nil => rw [joinL]; exact ⟨Nat.le_refl _, Int.le_refl _⟩
        | cons x xs ihx =>
          have h2 := ihx (fun p hp => ih p (by simp [hp]))
          rw [joinL]
          cases hf : b.parts.find? (byNo x.no) with
          | none => simp only [hf, List.nil_append, countL, deepL]; omega
          | some y =>
            cases hj : joinK x y with
            | none => simp only [hf, hj, Option.toList, List.nil_append, countL, deepL]; omega
            | some z =>
              have h1 := ih x (by simp) y z hj
              simp only [hf, hj, Option.toList, List.cons_append, List.nil_append, countL, deepL]; omega
      simp only [countK, deepK, up1]
      split <;> omega
  · rw [if_neg ho] at h; cases h
theorem joinH_some {ps : List K} {b p : K} (h : joinH ps b = some p) : ∃ x y, x ∈ ps ∧ y ∈ b.parts ∧ joinK x y = some p := by
  cases ps with
  | nil => rw [joinH] at h; cases h
  | cons x xs =>
    rw [joinH] at h
    dsimp only at h
    cases hb : b.parts with
    | nil => rw [hb] at h; cases h
    | cons y ys => rw [hb] at h; exact ⟨x, y, by simp, by simp, h⟩
theorem join_right (a : K) : ∀ b t, rightK a → rightK b → joinK a b = some t → rightK t := by
  refine K.ind (P := fun a => ∀ b t, rightK a → rightK b → joinK a b = some t → rightK t) ?_ a
  intro o nm no mu mo ps ih b t ha hb h
  have oa := ha.ok
  have ob := hb.ok
  rw [joinK] at h
  dsimp only at h
  by_cases ho : o = b.of
  · rw [if_pos ho] at h
    by_cases h4 : o = 4
    · rw [if_pos h4] at h
      obtain ⟨p, hp, rfl⟩ := Option.map_eq_some_iff.1 h
      obtain ⟨x, y, hx, hy, hj⟩ := joinH_some hp
      have tp := join_top hj
      have hxp := (oa.2.1 x hx).2 (show o ≠ 5 by omega)
      have hmo : mo = 0 := by rcases oa.1 with ⟨g, _⟩ | ⟨g, _⟩ | ⟨_, g, _⟩ | ⟨g, _⟩ <;> first | exact g | (exfalso; revert g; simp [K.of]; omega)
      have hmb : b.most = 0 := by rcases ob.1 with ⟨g, _⟩ | ⟨g, _⟩ | ⟨_, g, _⟩ | ⟨g, _⟩ <;> first | exact g | (exfalso; omega)
      refine .mk _ _ _ _ _ _ (.inr (.inr (.inl ⟨h4, by omega, rfl⟩))) ?_ ?_
      · intro q hq
        obtain rfl : q = p := by simpa using hq
        refine ⟨fun g => by omega, fun _ => ⟨by rw [tp.2.2.1]; exact hxp.1, by rw [tp.2.2.2.1]; exact hxp.2.1, by rw [tp.2.2.2.2.1, hxp.2.2]; rfl⟩⟩
      · intro q hq
        obtain rfl : q = p := by simpa using hq
        exact ih x hx y _ (oa.2.2 x hx) (ob.2.2 y hy) hj
    · rw [if_neg h4] at h
      obtain rfl := Option.some.inj h
      refine .mk _ _ _ _ _ _ ?_ ?_ ?_
      · rcases oa.1 with ⟨g1, g2, g3⟩ | ⟨g1, g2, g3⟩ | ⟨g1, _⟩ | ⟨g1, g2, g3⟩
        · have e : ps = [] := g3
          subst e
          refine .inl ⟨g1, ?_, by rw [joinL]⟩
          rcases ob.1 with ⟨q1, q2, _⟩ | ⟨q1, _⟩ | ⟨q1, _⟩ | ⟨q1, _⟩
          · rw [q2]; have : mo = 0 := g2; omega
          all_goals (exfalso; have : o = 1 ∨ o = 2 := g1; omega)
        · have e : ps = [] := g3
          subst e
          have e3 : o = 3 := g1
          have e2 : 0 ≤ mo ∧ mo ≤ 20 := g2
          rcases ob.1 with ⟨q1, _⟩ | ⟨q1, q2, _⟩ | ⟨q1, _⟩ | ⟨q1, _⟩
          · exfalso; omega
          · exact .inr (.inl ⟨g1, by omega, by rw [joinL]⟩)
          all_goals (exfalso; omega)
        · exact absurd g1 h4
        · have e5 : o = 5 := g1
          have e2 : mo = 0 := g2
          rcases ob.1 with ⟨q1, _⟩ | ⟨q1, _⟩ | ⟨q1, _⟩ | ⟨q1, q2, _⟩
          · exfalso; omega
          · exfalso; omega
          · exfalso; omega
          · exact .inr (.inr (.inr ⟨g1, by omega, rising_pw.2 (joinL_pw b ps (rising_pw.1 g3))⟩))
      · intro z hz
        obtain ⟨x, y, hx, hy, hj⟩ := joinL_mem b ps z hz
        have tp := join_top hj
        have hxp := oa.2.1 x hx
        exact ⟨fun g => by rw [tp.2.2.1, tp.2.2.2.1]; exact hxp.1 g, fun g => ⟨by rw [tp.2.2.1]; exact (hxp.2 g).1, by rw [tp.2.2.2.1]; exact (hxp.2 g).2.1, by rw [tp.2.2.2.2.1, (hxp.2 g).2.2]; rfl⟩⟩
      · intro z hz
        obtain ⟨x, y, hx, hy, hj⟩ := joinL_mem b ps z hz
        exact ih x hx y z (oa.2.2 x hx) (ob.2.2 y hy) hj
  · rw [if_neg ho] at h; cases h
theorem join_good {a b : K} (ha : goodK a) (hb : goodK b) : ∃ t, joinK a b = some t ∧ goodK t := by
  have hs : ∃ t, joinK a b = some t := by
    obtain ⟨h5, _⟩ := ha
    obtain ⟨g5, _⟩ := hb
    obtain ⟨o, nm, no, mu, mo, ps⟩ := a
    have e5 : o = 5 := h5
    refine ⟨.mk o nm no (mu && b.must) (max mo b.most) (joinL ps b), ?_⟩
    rw [joinK]
    dsimp only
    rw [if_pos (by omega), if_neg (by omega)]
  obtain ⟨t, ht⟩ := hs
  have hc := join_count a b t ht
  have tp := join_top ht
  refine ⟨t, ht, by rw [tp.1]; exact ha.1, ⟨by rw [tp.2.2.1]; exact ha.2.1.1, by rw [tp.2.2.2.1]; exact ha.2.1.2.1, by rw [tp.2.2.2.2.1, ha.2.1.2.2]; rfl⟩, join_right a b t ha.2.2.1 hb.2.2.1 ht, by have := ha.2.2.2.1; omega, by have := ha.2.2.2.2; omega⟩
end Go.Proofs.Ytobahkjbadamhaa
