/- The rows of a tree of types behind others: types of the program. -/
import Derived.Test.YtobahkjbadamhaaTell
import Derived.Test.YtobahkjbadamhaaKindW
import Derived.Deep.RegionLaw
import Derived.Deep.RegionHeld3
namespace Go.Proofs.Ytobahkjbadamhaa
open Go.RowKit
set_option linter.unusedVariables false
set_option maxRecDepth 100000
theorem DType.enc_one (l : List DType) : ∀ u ∈ (l.map DType.enc).flatten, u.oneCell' = true := by
  intro u hu
  obtain ⟨r, hr, hu⟩ := List.mem_flatten.1 hu
  obtain ⟨x, _, rfl⟩ := List.mem_map.1 hr
  simp only [DType.enc, List.mem_cons, List.not_mem_nil, or_false] at hu
  rcases hu with rfl | rfl | rfl | rfl | rfl | rfl <;> rfl
theorem rowsL_snoc (p : K) (up : Nat) : ∀ (ps : List K) (q : Nat), rowsL (ps ++ [p]) up q = rowsL ps up q ++ rowsK p up (q + countL ps) := by
  intro ps
  induction ps with
  | nil => intro q; simp only [List.nil_append, rowsL, countL, Nat.add_zero, List.append_nil]
  | cons x xs ih => intro q; show rowsK x up q ++ rowsL (xs ++ [p]) up (q + countK x) = (rowsK x up q ++ rowsL xs up (q + countK x)) ++ rowsK p up (q + (countK x + countL xs)); rw [ih, List.append_assoc, Nat.add_assoc]
theorem rowsL_len (ps : List K) (up q : Nat) : (rowsL ps up q).length = countL ps := rowsL_count ps (fun p _ => rows_count p) up q
theorem rowsL_take {ps : List K} {j : Nat} (h : j < ps.length) (up q : Nat) : rowsL (ps.take (j + 1)) up q = rowsL (ps.take j) up q ++ rowsK ps[j] up (q + countL (ps.take j)) := by
  rw [List.take_succ_eq_append_getElem h, rowsL_snoc]
theorem rowsK_eq (t : K) (up : Int) (q : Nat) : rowsK t up q = ⟨t.of, t.name, t.no, t.must, up, t.most⟩ :: rowsL t.parts q (q + 1) := by cases t; rw [rowsK]; rfl
/-- What lies behind others after so many parts. -/
def upTo (out : List DType) (x : DType) (ps : List K) (j : Nat) : List DType := out ++ x :: rowsL (ps.take j) out.length (out.length + 1)
theorem upTo_zero (out : List DType) (x : DType) (ps : List K) : upTo out x ps 0 = out ++ [x] := by rw [upTo, List.take_zero, rowsL]
theorem upTo_len (out : List DType) (x : DType) (ps : List K) (j : Nat) : (upTo out x ps j).length = out.length + 1 + countL (ps.take j) := by rw [upTo, List.length_append, List.length_cons, rowsL_len]; omega
theorem upTo_step {ps : List K} {j : Nat} (h : j < ps.length) (out : List DType) (x : DType) : upTo out x ps (j + 1) = upTo out x ps j ++ rowsK ps[j] out.length (upTo out x ps j).length := by
  rw [upTo_len, upTo, rowsL_take h, upTo, List.append_assoc, List.cons_append]
theorem upTo_end (out : List DType) (t : K) (up : Int) : upTo out ⟨t.of, t.name, t.no, t.must, up, t.most⟩ t.parts t.parts.length = out ++ rowsK t up out.length := by rw [upTo, List.take_length, rowsK_eq]
theorem map_snocT (l : List DType) (x : DType) : l.map DType.enc ++ [x.enc] = (l ++ [x]).map DType.enc := by rw [List.map_append]; rfl
set_option maxHeartbeats 3200000 in
theorem types_i (t : K) : ∀ (vt : Value) (out : List DType) (v : Value) (up : Int) (w : World) (lo hi B : Nat), hi ≤ B → B ≤ w.heap.size → out.length + countK t ≤ 1000000 → RepP w lo hi t vt → Own w B 71 6 v (out.map DType.enc) →
    Calls Try.prog 100 #[vt, v, .int .i64 up] w (GrPost B 71 6 ((out ++ rowsK t up out.length).map DType.enc) v w) := by
  refine K.ind2 (P := fun t => ∀ (vt : Value) (out : List DType) (v : Value) (up : Int) (w : World) (lo hi B : Nat), hi ≤ B → B ≤ w.heap.size → out.length + countK t ≤ 1000000 → RepP w lo hi t vt → Own w B 71 6 v (out.map DType.enc) →
    Calls Try.prog 100 #[vt, v, .int .i64 up] w (GrPost B 71 6 ((out ++ rowsK t up out.length).map DType.enc) v w)) ?_ t
  intro t ih vt out v up w lo hi B hhB hB hc hR hO
  have ih := hd ih
  rw [countK_eq] at hc
  have hend := hd (upTo_end out t up)
  obtain ⟨b, a, c, vs, rfl, hb, c0, c1, c2, c3, c4, c5, hS, hl, hg⟩ := hR.open
  have hg := hd hg
  obtain ⟨ao, co, rfl, _⟩ := hO.sl
  simp only [List.length_map] at hO ⊢
  have hO := hd hO
  obtain ⟨i0, hi0, hz0, hz1, hz2⟩ := info_parts infoType
  have Hi := hd hi0; have Hz0 := hd hz0; have Hz1 := hd hz1; have Hz2 := hd hz2
  clear hi0 hz0 hz1 hz2
  have hcp := hd (fun p (hp : p ∈ t.parts) => count_part hp)
  have hpl := len_count t.parts
  have hstep := hd (fun j (h : j < t.parts.length) => upTo_step h out ⟨t.of, t.name, t.no, t.must, up, t.most⟩)
  have hlen := hd (upTo_len out ⟨t.of, t.name, t.no, t.must, up, t.most⟩ t.parts)
  have hzero := hd (upTo_zero out ⟨t.of, t.name, t.no, t.must, up, t.most⟩ t.parts)
  have hcl := hd (countL_le t.parts)
  have hone := hd (DType.enc_one [⟨t.of, t.name, t.no, t.must, up, t.most⟩])
  have hsn := hd (map_snocT out ⟨t.of, t.name, t.no, t.must, up, t.most⟩)
  have hbd := hd ((Below.refl w.heap.size w).drew)
  have hctk := hd (fun j (h : j < t.parts.length) => countL_take h)
  clear hR
  generalize t.parts = ps at *
  generalize t.of = o at *
  generalize t.name = nm at *
  generalize t.no = no at *
  generalize t.must = mu at *
  generalize t.most = mo at *
  go_enter Try.func100, Try.ntmps100
  go_upto_region 2 with (fail)
  have hneb : some b ≠ (Value.slice ao out.length co).ownBlock := fun e => hO.out.no (.inl (by omega : b < B)) e.symm
  have hO1 := hd (hO.out.below (below_a1 w (a := .cells #[.int .i64 o, .string nm, .int .i64 no, .bool mu, .int .i64 up, .int .i64 mo] 71)))
  have hcn := hd (cells_new w [.int .i64 o, .string nm, .int .i64 no, .bool mu, .int .i64 up, .int .i64 mo] 71)
  go_region_held3 (fun w' => w'.cell? ⟨b, 0, none⟩ = some (.int .i64 o) ∧ w'.cell? ⟨b, 1, none⟩ = some (.string nm) ∧ w'.cell? ⟨b, 2, none⟩ = some (.int .i64 no) ∧ w'.cell? ⟨b, 3, none⟩ = some (.bool mu) ∧ w'.cell? ⟨b, 4, none⟩ = some (.int .i64 mo))
    (first
      | go_keep
      | (go_split_ands; refine ⟨?_, ?_, ?_, ?_, ?_⟩ <;> exact hga.cell (by assumption) hneb))
    ((refine step_appOwn (by rfl) _ _ _ (by rfl) B 71 i0 _ 6 56 Try.underlying26 Hi.out Hz0.out Hz1.out Hz2.out (by rfl) (by decide) _ (out.map DType.enc) [DType.enc ⟨o, nm, no, mu, up, mo⟩] (by rfl) (by exact hO1.out) _ 1 _ (by rfl) (by rfl) (one_row rfl) hcn.out hone.out (by simp only [List.length_map]; omega) (by decide) (by simp; omega) ?_; intro v6 w6 ho6 hga hva))
  rw [hsn.out, ← hzero.out] at ho6
  replace ho6 := hd ho6
  have hGG := hd ((Gr.of_below (v := .slice ao out.length co) (below_a1 w (a := .cells #[.int .i64 o, .string nm, .int .i64 no, .bool mu, .int .i64 up, .int .i64 mo] 71)).drew).trans (Gr.app hga hva))
  have hBz := hd (hGG.out.below hB (fun g hg => (hO.out.lt g hg).1))
  have q6 := hBz.out.cell (p := ⟨b, 5, none⟩) (by show b < B; omega)
  rw [c5] at q6
  have hS6 := hd (hS.same (Same.belowB hBz.out hhB) (Nat.le_refl _) (Nat.le_refl _) : PSl w6 lo hi _ _)
  have hR6 := hd (fun j (h : j < ps.length) (h' : j < vs.length) => (hg.out j h h').same (Same.belowB hBz.out hhB) (Nat.le_refl _) (Nat.le_refl _) ps[j] vs[j])
  have hz6 : B ≤ w6.heap.size := Nat.le_trans hB hGG.out.1.size
  clear c0 c1 c2 c3 c4 c5 hO hg hS hbd hga hva hneb hO1 hcn
  go_wp2_with fail
  go_loopw [1, 42] (fun s n wr => ∃ (sv : Value) (j : Nat), sv = s ∧ j ≤ ps.length ∧ n = .int .i64 j ∧ Hd (Own wr B 71 6 s ((upTo out ⟨o, nm, no, mu, up, mo⟩ ps j).map DType.enc)) ∧ Hd (Gr w6 v6 wr s)) (fun _ n _ => ps.length - (intOf n).toNat)
  case atStart => exact ⟨_, 0, rfl, Nat.zero_le _, rfl, ho6.out, Gr.refl _ _⟩
  case round =>
    obtain ⟨s, j, rfl, hj, rfl, hOr, hGr⟩ := hrel
    obtain ⟨wo, rfl⟩ : ∃ wo : World, wo = wr := ⟨_, rfl⟩
    have hBr := hd (hGr.out.below hz6 (fun g hg => (ho6.out.lt g hg).1))
    have hzr : B ≤ wo.heap.size := Nat.le_trans hz6 hGr.out.1.size
    by_cases hlt : j < ps.length
    · have hltI : (j : Int) < (ps.length : Int) := by omega
      obtain ⟨b1, o1, rfl, hb1, hc1⟩ := hS6.out.at (j := j) (by omega)
      have qj := hc1 j (by omega)
      rw [← hBr.out.cell (p := ⟨b1, o1 + j, none⟩) (by show b1 < B; omega)] at qj
      have hlj := hlen.out j
      have hck := hctk.out j hlt
      have hcle := hcl.out (j + 1)
      have ci := hd (ih.out ps[j] (List.getElem_mem hlt) vs[j] (upTo out ⟨o, nm, no, mu, up, mo⟩ ps j) s out.length wo lo hi B hhB hzr (by omega) ((hR6.out j hlt (by omega)).same (Same.belowB hBr.out hhB) (Nat.le_refl _) (Nat.le_refl _) _ _) hOr.out)
      rw [← hstep.out j hlt] at ci
      generalize vs[j] = u at *
      clear hc1 hlj hck hcle
      go_wp2_with fail
      refine ci.out.mono ?_
      rintro e w8 ⟨s8, rfl, ho8, hg8⟩
      have hG8 := hd (hGr.out.trans hg8)
      replace ho8 := hd ho8
      clear hg8
      go_wp2_with fail
      go_roundw
      case rel => exact ⟨s8, j + 1, rfl, by omega, by go_num, ho8, hG8⟩
      case measure => simp [intOf]; omega
    · obtain rfl : j = ps.length := by omega
      have hltI : ¬ (ps.length : Int) < (ps.length : Int) := by omega
      rw [hend.out] at hOr
      go_wp2_with fail
      go_ret
      exact ⟨s, rfl, by first | exact hOr.out | (rw [← List.map_append]; exact hOr.out), hGG.out.trans hGr.out⟩
end Go.Proofs.Ytobahkjbadamhaa
