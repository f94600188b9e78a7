/- A tree of types as a schema: whole, schema of the program; l2Tell of the reference. -/
import Derived.Test.YtobahkjbadamhaaTypesS
import Derived.Test.YtobahkjbadamhaaTell2
import Derived.StillTailTactics
namespace Go.Proofs.Ytobahkjbadamhaa
open Go.RowKit
set_option linter.unusedVariables false
set_option maxRecDepth 100000
theorem blank_size {nm : ByteArray} {no : Int} {mu : Bool} (h : blankP nm no mu) : nm.size ≤ 10 := by rw [h.1]; decide
theorem right_names {t s : K} (h : InK s t) : rightK t → t.name.size ≤ 10 → s.name.size ≤ 10 := by
  induction h with
  | self t => intro _ h; exact h
  | part o nm no mu mo ps p s hp _ ih =>
    intro hr _
    obtain ⟨_, h2, h3⟩ := hr.ok
    refine ih (h3 p hp) ?_
    have hpo := h2 p hp
    by_cases h5 : o = 5
    · exact (hpo.1 h5).1.2.2
    · exact blank_size (hpo.2 h5)
theorem good_nm {t : K} (h : goodK t) : nmOK t := fun s hs => by
  have := right_names hs h.2.2.1 (blank_size h.2.1)
  omega
theorem good_small {t : K} (h : goodK t) : countK t ≤ 30 := h.2.2.2.2
theorem rowsL_names (q0 : Nat) : ∀ ps : List K, (∀ p ∈ ps, ∀ up q, ∀ x ∈ rowsK p up q, x.name.size ≤ 1000000000000) → ∀ q, ∀ x ∈ rowsL ps q0 q, x.name.size ≤ 1000000000000 := by
  intro ps
  induction ps with
  | nil => intro _ q x hx; rw [rowsL] at hx; cases hx
  | cons p ps ih =>
    intro h q x hx
    rw [rowsL, List.mem_append] at hx
    rcases hx with hx | hx
    · exact h p (by simp) _ _ x hx
    · exact ih (fun p' hp' => h p' (by simp [hp'])) _ x hx
theorem rows_names (t : K) : nmOK t → ∀ up q, ∀ x ∈ rowsK t up q, x.name.size ≤ 1000000000000 := by
  refine K.ind2 (P := fun t => nmOK t → ∀ up q, ∀ x ∈ rowsK t up q, x.name.size ≤ 1000000000000) ?_ t
  intro t ih hn up q x hx
  rw [rowsK_eq] at hx
  rcases List.mem_cons.1 hx with rfl | hx
  · exact hn.self
  · exact rowsL_names q t.parts (fun p hp up q x hx => ih p hp (hn.part hp) up q x hx) _ x hx
set_option maxHeartbeats 1600000 in
theorem whole_i (t : K) (vt : Value) (w : World) (lo hi : Nat) (hlo : lo ≤ w.heap.size) (hh : hi ≤ w.heap.size) (h : RepP w lo hi t vt) :
    Calls Try.prog 57 #[vt] w (fun e w' => ∃ v, e = .returned v ∧ RepP w' lo w'.heap.size (wholeK t) v ∧ Below w.heap.size w w') := by
  obtain ⟨b, a, c, vs, rfl, hb, c0, c1, c2, c3, c4, c5, hS, hl, hg⟩ := h.open
  have hfin := hd (show RepP (w.drew.alloc (.cells #[.int .i64 t.of, .string ⟨#[]⟩, .int .i64 0, .bool false, .int .i64 t.most, .slice a t.parts.length c] 117)) lo (w.drew.alloc (.cells #[.int .i64 t.of, .string ⟨#[]⟩, .int .i64 0, .bool false, .int .i64 t.most, .slice a t.parts.length c] 117)).heap.size (wholeK t) (.pointer (some ⟨w.heap.size, 0, none⟩)) from by
    have hB : Below w.heap.size w (w.drew.alloc (.cells #[.int .i64 t.of, .string ⟨#[]⟩, .int .i64 0, .bool false, .int .i64 t.most, .slice a t.parts.length c] 117)) := ((Below.refl _ w).drew).next (below_a1 _)
    have hX : BoxN (w.drew.alloc (.cells #[.int .i64 t.of, .string ⟨#[]⟩, .int .i64 0, .bool false, .int .i64 t.most, .slice a t.parts.length c] 117)) w.heap.size [.int .i64 t.of, .string ⟨#[]⟩, .int .i64 0, .bool false, .int .i64 t.most, .slice a t.parts.length c] := BoxN.new w.drew _ _
    have hz := hX.2.2
    obtain ⟨o, nm, no, mu, mo, ps⟩ := t
    rw [wholeK, RepP]
    refine ⟨w.heap.size, .slice a ps.length c, vs, rfl, ⟨hlo, hz⟩, ⟨hX.1 0 _ rfl, hX.1 1 _ rfl, hX.1 2 _ rfl, hX.1 3 _ rfl, hX.1 4 _ rfl, hX.1 5 _ rfl⟩, hS.same (Same.below hB hh) (Nat.le_refl _) (by omega), ?_⟩
    exact RepL.mk ps vs hl (fun j h1 h2 => (hg j h1 h2).same (Same.below hB hh) (Nat.le_refl _) (by omega) _ _))
  have hB := hd (show Below w.heap.size w (w.drew.alloc (.cells #[.int .i64 t.of, .string ⟨#[]⟩, .int .i64 0, .bool false, .int .i64 t.most, .slice a t.parts.length c] 117)) from ((Below.refl _ w).drew).next (below_a1 _))
  clear h hg hS hl
  generalize hps : t.parts.length = n at *
  generalize t.of = o at *
  generalize t.most = mo at *
  replace hps := hd hps
  go_enter Try.func57, Try.ntmps57
  go_upto_region 1 with (fail)
  go_still_tail 12, (by kernel_rfl)
  change wpList _ _ _ _ _ w.drew
  go_wp2_with fail
  go_ret
  exact ⟨_, rfl, hfin.out, hB.out⟩
theorem ownR_store {w : World} {b o B B2 E sz : Nat} {v u : Value} {rows : List (List Value)} {rb : Option Nat} (h : OwnR w B E sz v rows rb) (hB : B2 ≤ B) (hb : b < B) : OwnR (w.setCell ⟨b, o, none⟩ u) B2 E sz v rows rb := by
  have h2 := h.kept (grownBy_setCell w ⟨b, o, none⟩ u) (by
    cases hrb : rb with
    | none => exact .inl rfl
    | some g => right; intro e; have := (h.lt g hrb).1; have e2 : g = b := Option.some.inj e; omega)
  rcases h2 with ⟨g1, g2⟩ | g
  · exact .inl ⟨g1, g2.weaken hB⟩
  · exact .inr g
theorem AggbPost.of {E : TypeId} {sz : Nat} {rows : List (List Value)} {b : Bool} {w w' : World} {v : Value} {rb : Option Nat} (h1 : OwnR w' w.heap.size E sz v rows rb) (h2 : Below w.heap.size w w') : AggbPost E sz rows b w (.returned (.tuple #[.agg #[v], .bool b])) w' := ⟨v, rb, rfl, h1, h2⟩
set_option maxHeartbeats 1600000 in
theorem schema_i (t : K) (vt : Value) (w : World) (lo hi : Nat) (hh : hi ≤ w.heap.size) (hgd : goodK t) (h : RepP w lo hi t vt) :
    Calls Try.prog 58 #[vt] w (AggbPost 71 6 ((rowsK t (-1) 0).map DType.enc) true w) := by
  have hsm := good_small hgd
  have cg := hd (fun w' (hb : Below w.heap.size w w') => good_i t vt w' lo hi (Nat.le_trans hh hb.size) (by omega) (good_nm hgd) (h.below hh hb) true (by simp [hgd]))
  have ct := hd (fun w' (hb : Below w.heap.size w w') => types_i t vt [] (.slice none 0 0) (-1) w' lo hi w'.heap.size (Nat.le_trans hh hb.size) (Nat.le_refl _) (by simp; omega) (h.below hh hb) Own.nil)
  have hlen : (rowsK t (-1) 0).length ≤ 30 := by rw [rows_count]; exact hsm
  obtain ⟨bp, _, _, _, rfl, hjk⟩ := h.open
  clear hjk
  simp only [List.nil_append, List.length_nil] at ct
  clear hgd h
  generalize rowsK t (-1) 0 = R at *
  go_enter Try.func58, Try.ntmps58
  go_wp2_with fail
  refine (cg.out _ (below_a1 _)).mono ?_
  rintro e w2 ⟨rfl, hb2⟩
  have hx2 := hd (Box1.below (b := w.heap.size) (v := .slice none 0 0) ⟨by go_simp, by go_simp⟩ hb2)
  have hB := hd ((below_a1 w).next hb2)
  have hz2 : w.heap.size ≤ w2.heap.size := hB.out.size
  clear hb2
  go_wp2_with fail
  refine (ct.out _ hB.out).mono ?_
  rintro e w3 ⟨v3, rfl, ho3, hG3⟩
  have hB23 := hd (hG3.below (B := w2.heap.size) (Nat.le_refl _) (by intro g hg; cases hg))
  have hx3 := hd (hx2.out.below hB23.out)
  have hB3 := hd (hB.out.next hB23.out)
  obtain ⟨a3, c3, rfl, _⟩ := ho3.sl
  simp only [List.length_map] at ho3 ⊢
  have Q1 := hx3.out.1; have Q2 := hx3.out.2
  have hlx := hx2.out.lt
  replace ho3 := hd ho3
  clear hG3
  go_wp2_with fail
  refine bodyPost_ret (v := .tuple #[.agg #[.slice a3 R.length c3], .bool true]) (by simp [results, Try.results58, go_sem, Q1]) rfl (AggbPost.of (rb := (Value.slice a3 R.length c3).ownBlock) ?_ ?_)
  · exact ((ho3.out.weaken hz2).kept (grownBy_setCell _ _ _) (own_ne (B := w.heap.size) (fun k hk => by have := (ho3.out.lt k hk).1; omega) (Nat.le_refl _))).r
  · exact hB3.out.setCell (by simp) _
set_option maxHeartbeats 1600000 in
theorem tell_s (t : K) (r : List Value) (w : World) (lo hi : Nat) (hh : hi ≤ w.heap.size) (hgd : goodK t) (h : RepT w lo hi t r) :
    Calls Try.prog 52 #[.agg r.toArray] w (AggbPost 71 6 ((rowsK t (-1) 0).map DType.enc) true w) := by
  have hsm := good_small hgd
  have cf := hd (fun w' (hb : Below w.heap.size w w') => flat_s t r [] (.slice none 0 0) (-1) w' lo hi w'.heap.size (Nat.le_trans hh hb.size) (Nat.le_refl _) (by simp; omega) (h.below hh hb) Own.nil)
  have hlen : (rowsK t (-1) 0).length ≤ 30 := by rw [rows_count]; exact hsm
  have cg := hd (fun v w' (hs : Sl w' v 6 ((rowsK t (-1) 0).map DType.enc)) => GoodSchema_s (rowsK t (-1) 0) v w' (by omega) (rows_names t (good_nm hgd) _ _) hs true (by simp [good_rows hgd]))
  obtain ⟨a, c, rows, rfl, hjk⟩ := h.open
  clear hjk
  simp only [List.nil_append, List.length_nil] at cf
  clear hgd h
  generalize rowsK t (-1) 0 = R at *
  generalize t.parts.length = np at *
  generalize t.of = o at *
  generalize t.name = nm at *
  generalize t.no = no at *
  generalize t.must = mu at *
  generalize t.most = mo at *
  go_enter Try.func52, Try.ntmps52
  go_wp2_with fail
  refine (cf.out _ (below_a2 _)).mono ?_
  rintro e w2 ⟨v2, rfl, ho2, hG2⟩
  have hb2 := hd (hG2.below (B := ((w.alloc (.cells #[.int .i64 o, .string nm, .int .i64 no, .bool mu, .int .i64 mo, .slice a np c] 74)).alloc (.cells #[.slice none 0 0] 28)).heap.size) (Nat.le_refl _) (by intro g hg; cases hg))
  have hx2 := hd (Box1.below (b := w.heap.size + 1) (v := .slice none 0 0) ⟨by go_simp, by go_simp⟩ hb2.out)
  have hB := hd ((below_a2 w).next hb2.out)
  have hz2 : w.heap.size + 2 ≤ w2.heap.size := by have := hb2.out.size; simp at this; omega
  obtain ⟨a2, c2, rfl, _⟩ := ho2.sl
  simp only [List.length_map] at ho2 ⊢
  have ho2 := hd (ho2.weaken (B' := w.heap.size + 2) (by simp))
  clear hG2 hb2
  have hxa := hd (hx2.out.below (below_a1 w2 (a := .cells #[.slice a2 R.length c2] 28)))
  have hBa := hd (hB.out.next (below_a1 w2 (a := .cells #[.slice a2 R.length c2] 28)))
  have hoa := hd (ho2.out.below (below_a1 w2 (a := .cells #[.slice a2 R.length c2] 28)))
  go_wp2_with fail
  refine (cg.out _ _ hoa.out.sl).mono ?_
  rintro e w3 ⟨rfl, hb3⟩
  have q3 := keepCell hb3 (show World.cell? _ ⟨w2.heap.size, 0, none⟩ = some (.slice a2 R.length c2) by go_simp)
  have hx3 := hd (hxa.out.below hb3)
  have hB3 := hd (hBa.out.next hb3)
  have ho3 := hd (hoa.out.below hb3)
  have Q1 := hx3.out.1; have Q2 := hx3.out.2
  clear hb3 hxa hBa hoa
  go_wp2_with fail
  refine bodyPost_ret (v := .tuple #[.agg #[.slice a2 R.length c2], .bool true]) (by simp [results, Try.results52, go_sem, Q1]) rfl (AggbPost.of (rb := (Value.slice a2 R.length c2).ownBlock) ?_ ?_)
  · exact ((ho3.out.weaken (by omega)).kept (grownBy_setCell _ _ _) (own_ne (B := w.heap.size + 1) (fun k hk => by have := (ho3.out.lt k hk).1; omega) (Nat.le_refl _))).r
  · exact hB3.out.setCell (by simp) _
end Go.Proofs.Ytobahkjbadamhaa
