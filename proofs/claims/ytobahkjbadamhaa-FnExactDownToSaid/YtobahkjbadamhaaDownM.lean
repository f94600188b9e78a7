/- Valid bytes as nodes: the nodes' tree is what the bytes tell; plain. With the walks of DownTo. -/
import Derived.Test.YtobahkjbadamhaaIsV
import Derived.Test.YtobahkjbadamhaaEnc
namespace Go.Proofs.Ytobahkjbadamhaa
open Go.RowKit
set_option linter.unusedVariables false
set_option maxRecDepth 100000
/-- A tree of nodes: what it is tells whether it is many; one that is not has no parts; its text is short. -/
inductive ndK : K → Prop
  | mk (o : Int) (nm : ByteArray) (no : Int) (mu : Bool) (mo : Int) (ps : List K) : o = (if mu then 5 else 1) → (mu = false → ps = []) → nm.size ≤ 400 → (∀ p ∈ ps, ndK p) → ndK (.mk o nm no mu mo ps)
theorem nd_leaf (n : Int) (s : ByteArray) (no : Int) (h : s.size ≤ 400) : ndK (leafV n s no) := .mk _ _ _ _ _ _ rfl (fun _ => rfl) h (fun p hp => by cases hp)
theorem nd_many (no mo : Int) (vs : List K) (h : ∀ p ∈ vs, ndK p) : ndK (.mk 5 ⟨#[]⟩ no true mo vs) := .mk _ _ _ _ _ _ rfl (fun e => by cases e) (Nat.zero_le _) h
theorem items_all {h : Nat → Option (K × Nat)} {n : Nat} {q : K → Prop} (hh : ∀ a v e, h a = some (v, e) → q v) : ∀ (f a : Nat) (vs : List K), itemsF h n f a = some vs → ∀ v ∈ vs, q v := by
  intro f
  induction f with
  | zero => intro a vs h; rw [itemsF] at h; cases h
  | succ f ih =>
    intro a vs h1
    rw [itemsF] at h1
    split at h1
    · split at h1
      · cases h1
      · rename_i v e h2
        obtain ⟨ws, hws, rfl⟩ := Option.map_eq_some_iff.1 h1
        intro x hx
        rcases List.mem_cons.1 hx with rfl | hx
        · exact hh _ _ _ h2
        · exact ih _ _ hws x hx
    · cases h1; intro x hx; cases hx
theorem decL_all {q : K → Prop} : ∀ {ps : List K} {l : List DField} {vs : List K}, (∀ p ∈ ps, ∀ f ∈ l, ∀ v, partV p.of p.most (fun d => decK p p.no d) f = some v → q v) → decL ps l = some vs → ∀ v ∈ vs, q v := by
  intro ps
  induction ps with
  | nil => intro l vs _ h; rw [decL] at h; cases h; intro x hx; cases hx
  | cons p ps ih =>
    intro l vs hc h
    rw [decL] at h
    dsimp only at h
    split at h
    · split at h
      · cases h
      · exact ih (fun q hq => hc q (by simp [hq])) h
    · rename_i f hf
      split at h
      · cases h
      · rename_i v hv
        obtain ⟨ws, hws, rfl⟩ := Option.map_eq_some_iff.1 h
        obtain ⟨hfm, hfn⟩ := find_no hf
        intro x hx
        rcases List.mem_cons.1 hx with rfl | hx
        · exact hc p (by simp) f hfm _ hv
        · exact ih (fun q hq => hc q (by simp [hq])) hws x hx
theorem dec_nd (t : K) : ∀ no b v, decK t no b = some v → ndK v := by
  refine K.ind2 (P := fun t => ∀ no b v, decK t no b = some v → ndK v) ?_ t
  intro t ih no b v h
  rw [decK_eq] at h
  split at h
  · split at h
    · cases h; exact nd_leaf _ _ _ (by omega)
    · cases h
  · split at h
    · obtain ⟨vs, hvs, rfl⟩ := Option.map_eq_some_iff.1 h
      refine nd_many _ _ _ ?_
      cases hp : t.parts with
      | nil => rw [hp, decH] at hvs; cases hvs
      | cons p ps =>
        rw [hp, decH] at hvs
        dsimp only at hvs
        refine items_all (fun a v e hi => ?_) _ _ _ hvs
        rw [itemAt] at hi
        split at hi
        · split at hi
          · cases hi; exact nd_leaf _ _ _ (by decide)
          · cases hi
        · split at hi
          · obtain ⟨x, hx, e2⟩ := Option.map_eq_some_iff.1 hi
            cases e2
            exact ih p (by rw [hp]; simp) _ _ _ hx
          · cases hi
    · split at h
      · obtain ⟨vs, hvs, rfl⟩ := Option.map_eq_some_iff.1 h
        refine nd_many _ _ _ (decL_all (fun p hp f _ v hv => ?_) hvs)
        rw [partV] at hv
        split at hv
        · split at hv
          · cases hv; exact nd_leaf _ _ _ (by decide)
          · cases hv
        · split at hv
          · cases hv
          · exact ih p hp _ _ _ hv
      · cases h
theorem nd_enc0 {l : List DType} (t : K) : ndK t → ∀ pre post up, l = pre ++ rowsK t up pre.length ++ post → enc l t pre.length (pre.length + countK t) := by
  refine K.ind (P := fun t => ndK t → ∀ pre post up, l = pre ++ rowsK t up pre.length ++ post → enc l t pre.length (pre.length + countK t)) ?_ t
  intro o nm no mu mo ps ih hr pre post up hl
  cases hr with
  | mk _ _ _ _ _ _ ho hps hnm hc =>
  rw [enc, countK]
  rw [rowsK] at hl
  refine ⟨⟨_, by rw [hl]; simp; rfl, rfl, rfl, rfl, rfl, rfl⟩, ?_, ?_⟩
  · cases mu with
    | true => left; rw [ho]; rfl
    | false => exact .inr (hps rfl)
  · have h2 : l = (pre ++ [⟨o, nm, no, mu, up, mo⟩]) ++ rowsL ps pre.length (pre ++ [(⟨o, nm, no, mu, up, mo⟩ : DType)]).length ++ post := by
      rw [hl]; simp
    have := rowsL_enc pre.length ps (fun p hp pre' post' up' h' => ih p hp (hc p hp) pre' post' up' h') _ post h2
    simp only [List.length_append, List.length_singleton] at this
    rw [← Nat.add_assoc]
    exact this
theorem nd_rowsL {t : K} : ∀ ps : List K, (∀ p ∈ ps, ∀ up q, ∀ x ∈ rowsK p up q, nT (tN x) = x ∧ (tN x).text.size ≤ 400) → ∀ up q, ∀ x ∈ rowsL ps up q, nT (tN x) = x ∧ (tN x).text.size ≤ 400 := by
  intro ps
  induction ps with
  | nil => intro _ up q x hx; rw [rowsL] at hx; cases hx
  | cons p ps ih =>
    intro h up q x hx
    rw [rowsL] at hx
    rcases List.mem_append.1 hx with hx | hx
    · exact h p (by simp) _ _ x hx
    · exact ih (fun p hp => h p (by simp [hp])) _ _ x hx
theorem nd_rows (t : K) : ndK t → ∀ up q, ∀ x ∈ rowsK t up q, nT (tN x) = x ∧ (tN x).text.size ≤ 400 := by
  refine K.ind (P := fun t => ndK t → ∀ up q, ∀ x ∈ rowsK t up q, nT (tN x) = x ∧ (tN x).text.size ≤ 400) ?_ t
  intro o nm no mu mo ps ih hr up q x hx
  cases hr with
  | mk _ _ _ _ _ _ ho hps hnm hc =>
  rw [rowsK] at hx
  rcases List.mem_cons.1 hx with rfl | hx
  · exact ⟨by subst ho; rfl, hnm⟩
  · exact nd_rowsL (t := .mk o nm no mu mo ps) ps (fun p hp => ih p hp (hc p hp)) _ _ x hx
theorem nd_trees {t : K} (h : ndK t) : trees (rowsV t (-1) 0) = rowsK t (-1) 0 := by
  rw [trees, rowsV, List.map_map]
  conv => rhs; rw [← List.map_id (rowsK t (-1) 0)]
  exact List.map_congr_left (fun x hx => (nd_rows t h _ _ x hx).1)
theorem nd_enc {t : K} (h : ndK t) : enc (trees (rowsV t (-1) 0)) t 0 (rowsV t (-1) 0).length := by
  rw [nd_trees h, rowsV_len]
  have := nd_enc0 (l := rowsK t (-1) 0) t h [] [] (-1) (by simp)
  simpa using this
theorem nd_text {t : K} (h : ndK t) : ∀ x ∈ rowsV t (-1) 0, x.text.size ≤ 400 := by
  intro x hx
  obtain ⟨y, hy, rfl⟩ := List.mem_map.1 hx
  exact (nd_rows t h _ _ y hy).2
theorem nd_head {t : K} (h : t.no = 0) (hl : (rowsV t (-1) 0).length ≤ 40) : headP (rowsV t (-1) 0) := by
  have h1 := rowsV_len t (-1) 0
  have h2 := count_pos t
  refine ⟨⟨by omega, hl⟩, by omega, ?_⟩
  simp only [rowsV_eq, List.getElem_cons_zero]
  exact ⟨rfl, h⟩
/-- What of valid bytes is left where only what the type knows stays. -/
def downP (l : List DType) (b : ByteArray) (s : Bool) (z : List UInt8) : Prop := ∀ q, decQ l b q → (valueR q = none → s = false ∧ z = []) ∧ ∀ ln, valueR q = some ln → encodeP ln l s z
theorem decQ_uniq {l : List DType} {b : ByteArray} {q q' : Option (List DNode)} (h : decQ l b q) (h' : decQ l b q') : q = q' := by
  by_cases hg : goodP l
  · obtain ⟨t, ht⟩ := good_tree hg
    rw [h.2 t ht hg, h'.2 t ht hg]
  · rw [h.1 hg, h'.1 hg]
theorem downP_ex (l : List DType) (b : ByteArray) : ∃ s z, downP l b s z ∧ z.length ≤ 400 := by
  obtain ⟨q, hq⟩ := decQ_ex l b
  cases hv : valueR q with
  | none => exact ⟨false, [], fun q' hq' => by rw [decQ_uniq hq' hq, hv]; exact ⟨fun _ => ⟨rfl, rfl⟩, fun ln e => by cases e⟩, by simp⟩
  | some ln =>
    obtain ⟨s, z, h, hz⟩ := encodeP_ex ln l
    exact ⟨s, z, fun q' hq' => by rw [decQ_uniq hq' hq, hv]; exact ⟨fun e => (by cases e), fun ln' e => by cases e; exact h⟩, hz⟩
/-- A value that bytes tell: its tree. -/
theorem value_tree {t : K} {b : ByteArray} {ln : List DNode} (h : valueR (validR t b) = some ln) : ∃ T, decK t 0 b = some T ∧ ln = rowsV T (-1) 0 ∧ ln.length ≤ 40 := by
  rw [validR] at h
  split at h
  · cases hd : decK t 0 b with
    | none => rw [hd] at h; cases h
    | some T =>
      rw [hd, Option.map_some, valueR_some] at h
      split at h
      · rename_i h40; cases h; exact ⟨T, rfl, rfl, h40⟩
      · cases h
  · cases h
/-- What is left of bytes, by the tree of the schema. -/
def downT (t : K) (b : ByteArray) (s : Bool) (z : List UInt8) : Prop := (valueR (validR t b) = none → s = false ∧ z = []) ∧ ∀ T, decK t 0 b = some T → valueR (validR t b) = some (rowsV T (-1) 0) → (if (encB t T).length ≤ 400 then encB t T else []) = z ∧ decide ((encB t T).length ≤ 400) = s
theorem downP_tree {l : List DType} {b : ByteArray} {s : Bool} {z : List UInt8} (h : downP l b s z) {t : K} (ht : treeOf l t) (hg : goodP l) : downT t b s z := by
  obtain ⟨q, hq⟩ := decQ_ex l b
  have hqt := hq.2 t ht hg
  obtain ⟨h1, h2⟩ := h q hq
  rw [hqt] at h1 h2
  refine ⟨h1, fun T hT hv => ?_⟩
  obtain ⟨T', hT', _, hl40⟩ := value_tree hv
  obtain rfl : T = T' := by rw [hT] at hT'; cases hT'; rfl
  have hnd := dec_nd t _ _ _ hT
  have hz : encZ (rowsV T (-1) 0) l (encB t T) := ⟨hg, t, T, ht, nd_head (dec_no hT) hl40, nd_enc hnd, dec_fits t ht.2.2.2.1 (good_fold ht.2) _ _ _ hT, rfl⟩
  have := encodeP_yes (h2 _ hv) hz
  exact ⟨this.2.symm, this.1.symm⟩
theorem downP_bad {l : List DType} {b : ByteArray} {s : Bool} {z : List UInt8} (h : downP l b s z) (hg : ¬ goodP l) : s = false ∧ z = [] := by
  obtain ⟨q, hq⟩ := decQ_ex l b
  refine (h q hq).1 ?_
  rw [hq.1 hg]; rfl
set_option maxHeartbeats 3200000 in
theorem downTo_i (t : K) (hg : goodK t) (vt : Value) (b : ByteArray) (w : World) (lo hi : Nat) (hh : hi ≤ w.heap.size) (hR : RepP w lo hi t vt) (s : Bool) (z : List UInt8) (hz : downT t b s z) :
    Calls Try.prog 88 #[vt, .string b] w (SbPost z s w) := by
  have cv := hd (value_i t hg vt b w lo hi hh hR)
  have hR2 := hd hR
  obtain ⟨bk, _, _, _, rfl, hjk⟩ := hR.open
  clear hjk hR
  cases hv : valueR (validR t b) with
  | none =>
    have hno := hd (hz.1 hv)
    rw [hv] at cv
    clear hz hv hR2
    go_enter Try.func88, Try.ntmps88
    go_wp2_with fail
    refine cv.out.mono ?_
    rintro e w2 ⟨v2, rb, rfl, ho2, hb2⟩
    obtain ⟨a2, c2, rfl, hjk⟩ := ho2.sl
    have hB := hd hb2
    clear hb2 hjk ho2
    have hfin := hd (fun wr (hw : Below w2.heap.size w2 wr) => (show SbPost z s w (.returned (.tuple #[.string ⟨#[]⟩, .bool false])) wr from by
      rw [hno.out.1, hno.out.2]; exact ⟨rfl, hB.out.next hw⟩))
    go_wp2_with fail
    go_ret2
    exact hfin.out _ (below_a1 _)
  | some ln =>
    obtain ⟨T, hT, rfl, hl40⟩ := value_tree hv
    have hnd := dec_nd t _ _ _ hT
    have hyes := hz.2 T hT hv
    have hcT : countK T ≤ 40 := by rw [← rowsV_len T (-1) 0]; exact hl40
    have hct := good_small hg
    have ce := hd (fun (vv : Value) (w' : World) (hbb : Below w.heap.size w w') (hV : Sl w' vv 5 ((rowsV T (-1) 0).map DNode.enc)) => encode_i (rowsV T (-1) 0) (by omega) t T vv _ w' lo hi (Nat.le_trans hh hbb.size) hg.2.2.1 (by omega) (by omega) (dec_fits t hg.2.2.1 (good_fold hg) _ _ _ hT) (nd_enc hnd) hV (hR2.out.below hh hbb) _ rfl z s hyes)
    rw [hv] at cv
    clear hz hv hnd hyes hT hR2 hct hcT
    generalize rowsV T (-1) 0 = Q at *
    go_enter Try.func88, Try.ntmps88
    go_wp2_with fail
    refine cv.out.mono ?_
    rintro e w2 ⟨v2, rb, rfl, ho2, hb2⟩
    have hV := hd ho2.sl
    obtain ⟨a2, c2, rfl, hjk⟩ := ho2.sl
    have hB := hd hb2
    clear hb2 hjk ho2
    simp only [Option.getD_some, List.length_map] at hV ⊢
    have hal := hd (below_a1 w2 (a := .cells #[.slice a2 Q.length c2] 39))
    have q2 := hd (show (w2.alloc (.cells #[.slice a2 Q.length c2] 39)).cell? ⟨w2.heap.size, 0, none⟩ = some (.slice a2 Q.length c2) by go_simp)
    go_upto_region 2 with (fail)
    generalize w2.alloc (.cells #[.slice a2 Q.length c2] 39) = W at *
    have q3 := q2.out
    have hB3 := hd (hB.out.next hal.out)
    have c4 := hd (ce.out _ W hB3.out (hV.out.mono hal.out))
    go_wp2_with fail
    refine c4.out.mono ?_
    rintro e w4 ⟨rfl, hb4⟩
    have hB4 := hd (hB3.out.next hb4)
    clear hb4
    go_wp2_with fail
    go_ret2
    exact ⟨rfl, hB4.out⟩
set_option maxHeartbeats 3200000 in
theorem DownTo_i (b : ByteArray) (l : List DType) (v : Value) (w : World) (hl : l.length ≤ 1000000000) (hs : ∀ x ∈ l, x.name.size ≤ 1000000000000) (h : Sl w v 6 (l.map DType.enc)) (s : Bool) (z : List UInt8) (hr : downP l b s z) :
    Calls Try.prog 43 #[.string b, .agg #[v]] w (SbPost z s w) := by
  obtain ⟨g, hg⟩ := boolOf (goodP l)
  have ck := hd (fun w' (hbb : Below w.heap.size w w') => kindOf_i l v w' (by omega) hs (h.mono hbb) g hg)
  obtain ⟨a1, c1, rfl, _⟩ := h
  simp only [List.length_map] at ck ⊢
  replace hr := hd hr
  replace hg := hd hg
  go_enter Try.func43, Try.ntmps43
  go_wp2_with fail
  refine (ck.out _ (below_a1 _)).mono ?_
  intro e w2 hp
  cases g with
  | true =>
    have hgp := hd (hg.out.1 rfl)
    obtain ⟨t, vp, rfl, ht, hrp, hb2⟩ := KoPost_t hp
    have cd := hd (downTo_i t ht.2 vp b w2 _ _ (Nat.le_refl _) hrp s z (downP_tree hr.out ht hgp.out))
    obtain ⟨bp, _, _, _, rfl, hjk⟩ := hrp.open
    have hB := hd ((below_a1 w).next hb2)
    clear hp hb2 hrp ht hgp hjk
    go_wp2_with fail
    refine cd.out.mono ?_
    rintro e w3 ⟨rfl, hb3⟩
    have hB3 := hd (hB.out.next hb3)
    clear hb3
    go_wp2_with fail
    go_ret2
    exact ⟨rfl, hB3.out⟩
  | false =>
    obtain ⟨rfl, hb2⟩ := KoPost_f hp
    have hno := hd (downP_bad hr.out (fun g => absurd (hg.out.2 g) (by simp)))
    have hB := hd ((below_a1 w).next hb2)
    clear hp hb2
    go_wp2_with fail
    go_ret2
    exact ⟨by rw [hno.out.1, hno.out.2]; rfl, hB.out⟩
set_option maxHeartbeats 3200000 in
theorem DownTo_s (b : ByteArray) (l : List DType) (v : Value) (w : World) (hl : l.length ≤ 1000000000) (hs : ∀ x ∈ l, x.name.size ≤ 1000000000000) (h : Sl w v 6 (l.map DType.enc)) (s : Bool) (z : List UInt8) (hr : downP l b s z) :
    Calls Try.prog 42 #[.string b, .agg #[v]] w (SbPost z s w) := by
  obtain ⟨q, hq⟩ := decQ_ex l b
  have cv := hd (fun w' (hbb : Below w.heap.size w w') => DecodeValue_s b l v w' hl hs (h.mono hbb) q hq)
  have hS := hd h
  obtain ⟨a1, c1, rfl, _⟩ := h
  simp only [List.length_map] at cv hS ⊢
  obtain ⟨h1, h2⟩ := hr q hq
  cases hv : valueR q with
  | none =>
    have hno := hd (h1 hv)
    rw [hv] at cv
    clear h1 h2 hq hv hS hr
    go_enter Try.func42, Try.ntmps42
    go_wp2_with fail
    refine (cv.out _ (below_a1 _)).mono ?_
    rintro e w2 ⟨v2, rb, rfl, ho2, hb2⟩
    obtain ⟨a2, c2, rfl, hjk⟩ := ho2.sl
    have hB := hd ((below_a1 w).next hb2)
    clear hb2 hjk ho2
    have hfin := hd (fun wr (hw : Below w2.heap.size w2 wr) => (show SbPost z s w (.returned (.tuple #[.string ⟨#[]⟩, .bool false])) wr from by
      rw [hno.out.1, hno.out.2]; exact ⟨rfl, hB.out.next hw⟩))
    go_wp2_with fail
    go_ret2
    exact hfin.out _ (below_a1 _)
  | some ln =>
    have hgp : goodP l := Classical.byContradiction fun hg => by rw [hq.1 hg] at hv; cases hv
    obtain ⟨t, ht⟩ := good_tree hgp
    have hv2 := hv
    rw [hq.2 t ht hgp] at hv2
    obtain ⟨T, hT, hln, hl40⟩ := value_tree hv2
    have htx := nd_text (dec_nd t _ _ _ hT)
    rw [← hln] at htx
    have hE := h2 _ hv
    have ce := hd (fun (vv : Value) (w' : World) (hbb : Below w.heap.size w w') (hV : Sl w' vv 5 (ln.map DNode.enc)) => EncodeValue_s ln l vv _ w' (by omega) hl (fun x hx => by have := htx x hx; omega) hs hV (hS.out.mono hbb) s z hE)
    rw [hv] at cv
    clear h1 h2 hq hv hv2 hS hr hgp ht hT hln htx hE
    go_enter Try.func42, Try.ntmps42
    go_wp2_with fail
    refine (cv.out _ (below_a1 _)).mono ?_
    rintro e w2 ⟨v2, rb, rfl, ho2, hb2⟩
    have q0 := hd (keepCell hb2 (show World.cell? _ ⟨w.heap.size, 0, none⟩ = some (.slice a1 l.length c1) by go_simp))
    have hV := hd ho2.sl
    obtain ⟨a2, c2, rfl, hjk⟩ := ho2.sl
    have hB := hd ((below_a1 w).next hb2)
    clear hb2 hjk ho2
    simp only [Option.getD_some, List.length_map] at hV ⊢
    have hal := hd (below_a1 w2 (a := .cells #[.slice a2 ln.length c2] 39))
    have q2 := hd (show (w2.alloc (.cells #[.slice a2 ln.length c2] 39)).cell? ⟨w2.heap.size, 0, none⟩ = some (.slice a2 ln.length c2) by go_simp)
    go_upto_region 2 with (fail)
    generalize w2.alloc (.cells #[.slice a2 ln.length c2] 39) = W at *
    have q3 := q2.out
    have q4 := keepCell hal.out q0.out
    have hB3 := hd (hB.out.next hal.out)
    have c4 := hd (ce.out _ W hB3.out (hV.out.mono hal.out))
    go_wp2_with fail
    refine c4.out.mono ?_
    rintro e w4 ⟨rfl, hb4⟩
    have hB4 := hd (hB3.out.next hb4)
    clear hb4
    go_wp2_with fail
    go_ret2
    exact ⟨rfl, hB4.out⟩
end Go.Proofs.Ytobahkjbadamhaa
