/- EncodeValue of both sides. -/
import Derived.Test.YtobahkjbadamhaaBytesI
import Derived.Test.YtobahkjbadamhaaBytesS
import Derived.Test.YtobahkjbadamhaaFitVS
import Derived.Test.YtobahkjbadamhaaSchemas
namespace Go.Proofs.Ytobahkjbadamhaa
open Go.RowKit
set_option linter.unusedVariables false
set_option maxRecDepth 100000
/-- The bytes of nodes of a schema. -/
def encZ (ln : List DNode) (l : List DType) (z : List UInt8) : Prop := goodP l ∧ ∃ t v, treeOf l t ∧ headP ln ∧ enc (trees ln) v 0 ln.length ∧ fitsB t v = true ∧ z = encB t v
theorem encZ.uniq {ln : List DNode} {l : List DType} {z z' : List UInt8} (h : encZ ln l z) (h' : encZ ln l z') : z = z' := by
  obtain ⟨_, t, v, h1, _, h3, _, rfl⟩ := h
  obtain ⟨_, t', v', h1', _, h3', _, rfl⟩ := h'
  rw [treeOf_uniq h1 h1']
  have e1 : enc (trees ln) v 0 (trees ln).length := by rw [trees_len]; exact h3
  have e2 : enc (trees ln) v' 0 (trees ln).length := by rw [trees_len]; exact h3'
  rw [Sb.uniq v 0 v' (enc_out e1) (enc_out e2)]
theorem encZ_of {ln : List DNode} {l : List DType} (h : fitP ln l) : ∃ t v, goodP l ∧ treeOf l t ∧ headP ln ∧ enc (trees ln) v 0 ln.length ∧ fitsB t v = true ∧ encZ ln l (encB t v) := by
  obtain ⟨hg, t, ht, hh, v, hv, hf⟩ := h
  exact ⟨t, v, hg, ht, hh, hv, hf, hg, t, v, ht, hh, hv, hf, rfl⟩
theorem encZ.fit {ln : List DNode} {l : List DType} {z : List UInt8} (h : encZ ln l z) : fitP ln l := by
  obtain ⟨hg, t, v, ht, hh, hv, hf, _⟩ := h
  exact ⟨hg, t, ht, hh, v, hv, hf⟩
def encodeP (ln : List DNode) (l : List DType) (b : Bool) (z : List UInt8) : Prop := (b = true → encZ ln l z ∧ z.length ≤ 400) ∧ (b = false → z = [] ∧ ∀ z', encZ ln l z' → 400 < z'.length)
theorem encodeP_ex (ln : List DNode) (l : List DType) : ∃ b z, encodeP ln l b z ∧ z.length ≤ 400 := by
  by_cases h : fitP ln l
  · obtain ⟨t, v, _, _, _, _, _, hz⟩ := encZ_of h
    by_cases hl : (encB t v).length ≤ 400
    · exact ⟨true, _, ⟨fun _ => ⟨hz, hl⟩, by simp⟩, hl⟩
    · exact ⟨false, [], ⟨by simp, fun _ => ⟨rfl, fun z' h' => by rw [h'.uniq hz]; omega⟩⟩, by simp⟩
  · exact ⟨false, [], ⟨by simp, fun _ => ⟨rfl, fun z' h' => absurd h'.fit h⟩⟩, by simp⟩
theorem encodeP_no {ln : List DNode} {l : List DType} {b : Bool} {z : List UInt8} (h : encodeP ln l b z) (hf : ¬ fitP ln l) : b = false ∧ z = [] := by
  cases b with
  | true => exact absurd (h.1 rfl).1.fit hf
  | false => exact ⟨rfl, (h.2 rfl).1⟩
theorem encodeP_yes {ln : List DNode} {l : List DType} {b : Bool} {z z' : List UInt8} (h : encodeP ln l b z) (h' : encZ ln l z') : b = decide (z'.length ≤ 400) ∧ z = if z'.length ≤ 400 then z' else [] := by
  cases b with
  | true =>
    obtain ⟨h1, h2⟩ := h.1 rfl
    rw [← h1.uniq h', if_pos h2]; simp [h2]
  | false =>
    obtain ⟨h1, h2⟩ := h.2 rfl
    have := h2 _ h'
    rw [if_neg (by omega), h1]; simp; omega
/-- How many parts each tree within a small tree has. -/
theorem in_parts {v : K} {n : Nat} (h : countK v ≤ n + 1) : v.parts.length ≤ n ∧ ∀ x, InK x v → x.parts.length ≤ n := by
  have hx : ∀ x, InK x v → x.parts.length ≤ n := by
    intro x hx
    have h1 := (in_le hx).1
    have h2 := countK_eq x
    have h3 := len_count x.parts
    omega
  exact ⟨hx v (.self v), hx⟩
theorem whole_stuck (L : List DType) : Stuck L 0 L.length := by
  intro b _ _ _ h
  rw [U_no (Nat.le_refl _)] at h
  omega
set_option maxHeartbeats 3200000 in
theorem encode_i (ln : List DNode) (hl : ln.length ≤ 1000000) (t v : K) (vv vt : Value) (w : World) (lo hi : Nat) (hh : hi ≤ w.heap.size) (hr : rightK t) (hct : countK t ≤ 1000000) (hcv : countK v ≤ 1000) (hf : fitsB t v = true) (hE : enc (trees ln) v 0 ln.length) (hV : Sl w vv 5 (ln.map DNode.enc)) (hR : RepP w lo hi t vt) (z : List UInt8) (hz : encB t v = z) (r : List UInt8) (b : Bool) (hr2 : (if z.length ≤ 400 then z else []) = r ∧ decide (z.length ≤ 400) = b) :
    Calls Try.prog 80 #[vt, .agg #[vv]] w (SbPost r b w) := by
  have h0 := (encV_top hE).1
  rcases hV.open with ⟨a1, c1, rfl, hrr⟩ | ⟨b1, o1, c, rfl, hrr, C⟩
  · exfalso; have : ln = [] := by simpa using hrr
    subst this; simp at h0
  have hsz := enc_size t hr v hf hcv
  have cb := hd (fun w' (hb : Below w.heap.size w w') => bytes_i ln b1 o1 c hl t v 0 ln.length vt w' lo hi (Nat.le_trans hh hb.size) hr hct hcv hf hE (by have := whole_stuck (trees ln); rw [trees_len] at this; exact this) (C.mono hb) (hR.below hh hb))
  rw [hz] at cb hsz
  obtain ⟨bp, _, _, _, rfl, hjk⟩ := hR.open
  clear hjk hR hE hz hf hr C
  simp only [List.length_map]
  have hzl : z.length ≤ 60000 := by omega
  have hms := hd (mkS_size z)
  have hmi : ((mkS z).size : Int) ≤ 60000 := by have := hms.out; omega
  by_cases h4 : z.length ≤ 400
  · have hgt : ¬ (400 : Int) < (z.length : Int) := by omega
    have hres := hd (show r = z ∧ b = true by rw [← hr2.1, ← hr2.2]; simp [h4])
    clear h4 hr2
    go_enter Try.func80, Try.ntmps80
    go_wp2_with fail
    refine (cb.out _ (below_a1 _)).mono ?_
    rintro e w2 ⟨rfl, hb2⟩
    have hB := hd ((below_a1 w).next hb2)
    clear hb2
    go_wp2_with fail
    go_ret2
    exact ⟨by rw [hres.out.1, hres.out.2]; rfl, hB.out⟩
  · have hgt : (400 : Int) < (z.length : Int) := by omega
    have hres := hd (show r = [] ∧ b = false by rw [← hr2.1, ← hr2.2]; simp [h4])
    clear h4 hr2
    go_enter Try.func80, Try.ntmps80
    go_wp2_with fail
    refine (cb.out _ (below_a1 _)).mono ?_
    rintro e w2 ⟨rfl, hb2⟩
    have hB := hd ((below_a1 w).next hb2)
    clear hb2
    go_wp2_with fail
    go_ret2
    exact ⟨by rw [hres.out.1, hres.out.2]; rfl, hB.out⟩
set_option maxHeartbeats 3200000 in
theorem EncodeValue_i (ln : List DNode) (l : List DType) (vv v : Value) (w : World) (hln : ln.length ≤ 1000000000) (hl : l.length ≤ 1000000000) (hnm : ∀ x ∈ ln, x.text.size ≤ 1000000000000) (hs : ∀ x ∈ l, x.name.size ≤ 1000000000000) (hV : Sl w vv 5 (ln.map DNode.enc)) (h : Sl w v 6 (l.map DType.enc)) (b : Bool) (z : List UInt8) (hr : encodeP ln l b z) :
    Calls Try.prog 37 #[.agg #[vv], .agg #[v]] w (SbPost z b w) := by
  obtain ⟨g, hg⟩ := boolOf (goodP l)
  have ck := hd (fun w' (hbb : Below w.heap.size w w') => kindOf_i l v w' (by omega) hs (h.mono hbb) g hg)
  have hV0 := hd hV
  obtain ⟨a1, c1, rfl, _⟩ := h
  obtain ⟨av, cv, rfl, _⟩ := hV
  simp only [List.length_map] at ck hV0 ⊢
  replace hr := hd hr
  replace hg := hd hg
  go_enter Try.func37, Try.ntmps37
  go_wp2_with fail
  refine (ck.out _ (below_a2 _)).mono ?_
  intro e w2 hp
  cases g with
  | true =>
    obtain ⟨t, vp, rfl, ht, hrp, hb2⟩ := KoPost_t hp
    have hgp := hg.out.1 rfl
    have hsm := good_small ht.2
    have q := keepCell hb2 (show World.cell? _ ⟨w.heap.size, 0, none⟩ = some (.slice av ln.length cv) by go_simp)
    have hB := hd ((below_a2 w).next hb2)
    obtain ⟨f, hf⟩ := boolOf (fitP ln l)
    have cf := hd (fits_i ln hln hnm t _ vp w2 _ _ (Nat.le_refl _) ht.2.2.2.1 (by omega) (hV0.out.mono hB.out) hrp f (by rw [hf]; exact fitP_of hgp ht))
    have hrp2 := hd hrp
    obtain ⟨bp, _, _, _, rfl, hjk⟩ := hrp.open
    cases f with
    | false =>
      have hno := hd (encodeP_no hr.out (fun q => absurd (hf.2 q) (by simp)))
      clear hp hb2 hrp ht hgp hjk hf
      go_wp2_with fail
      refine cf.out.mono ?_
      rintro e3 w3 ⟨rfl, hb3⟩
      have hB3 := hd (hB.out.next hb3)
      clear hb3
      go_wp2_with fail
      go_ret2
      exact ⟨by rw [hno.out.1, hno.out.2]; rfl, hB3.out⟩
    | true =>
      obtain ⟨t', u, _, ht', hhd, hu, hfu, hzz⟩ := encZ_of (hf.1 rfl)
      obtain rfl := treeOf_uniq ht ht'
      have hyes := hd (encodeP_yes hr.out hzz)
      have hcu := enc_count u _ _ hu
      have hn40 := hhd.1.2
      have ce := hd (fun w' (hb : Below w2.heap.size w2 w') => encode_i ln (by omega) t u _ _ w' _ _ (Nat.le_trans (Nat.le_refl _) hb.size) ht.2.2.2.1 (by omega) (by omega) hfu hu (hV0.out.mono (hB.out.next hb)) (hrp2.out.below (Nat.le_refl _) hb) _ rfl z b ⟨hyes.out.2.symm, hyes.out.1.symm⟩)
      clear hp hb2 hrp ht hgp hjk hf ht' hhd hu hfu hzz hcu
      generalize encB t u = y at *
      go_wp2_with fail
      refine cf.out.mono ?_
      rintro e3 w3 ⟨rfl, hb3⟩
      have hB3 := hd (hB.out.next hb3)
      have q3 := keepCell hb3 q
      have hb3 := hd hb3
      clear q
      go_wp2_with fail
      refine (ce.out _ hb3.out).mono ?_
      rintro e4 w4 ⟨rfl, hb4⟩
      have hB4 := hd (hB3.out.next hb4)
      clear hb4
      go_wp2_with fail
      go_ret2
      exact ⟨rfl, hB4.out⟩
  | false =>
    obtain ⟨rfl, hb2⟩ := KoPost_f hp
    have hno := hd (encodeP_no hr.out (fun q => absurd (hg.out.2 q.1) (by simp)))
    have hB := hd ((below_a2 w).next hb2)
    clear hp hb2
    go_wp2_with fail
    go_ret2
    exact ⟨by rw [hno.out.1, hno.out.2]; rfl, hB.out⟩
set_option maxHeartbeats 3200000 in
theorem EncodeValue_s (ln : List DNode) (l : List DType) (vv v : Value) (w : World) (hln : ln.length ≤ 1000000000) (hl : l.length ≤ 1000000000) (hnm : ∀ x ∈ ln, x.text.size ≤ 1000000000000) (hs : ∀ x ∈ l, x.name.size ≤ 1000000000000) (hV : Sl w vv 5 (ln.map DNode.enc)) (h : Sl w v 6 (l.map DType.enc)) (b : Bool) (z : List UInt8) (hr : encodeP ln l b z) :
    Calls Try.prog 36 #[.agg #[vv], .agg #[v]] w (SbPost z b w) := by
  obtain ⟨f, hf⟩ := boolOf (fitP ln l)
  have cf := hd (fun w' (hbb : Below w.heap.size w w') => FitsSchema_s ln l vv v w' hln hl hnm hs (hV.mono hbb) (h.mono hbb) f hf)
  have r0 := hd (fun w' (hbb : Below w.heap.size w w') hq t ht => root_s l v w' hq t ht (h.mono hbb))
  have r1 := hd (fun w' (hbb : Below w.heap.size w w') (hll : ln.length ≤ 1000000) hq t ht => rootV_s ln vv w' hll hq t ht (hV.mono hbb))
  obtain ⟨a1, c1, rfl, -⟩ := h
  obtain ⟨av, cv, rfl, -⟩ := hV
  simp only [List.length_map] at cf r0 r1 ⊢
  cases f with
  | false =>
    have hno := hd (encodeP_no hr (fun q => absurd (hf.2 q) (by simp)))
    clear hf
    replace hr := hd hr
    go_enter Try.func36, Try.ntmps36
    go_wp2_with fail
    refine (cf.out _ (below_a2 _)).mono ?_
    rintro e w2 ⟨rfl, hb2⟩
    have hB := hd ((below_a2 w).next hb2)
    clear hb2
    go_wp2_with fail
    go_ret2
    exact ⟨by rw [hno.out.1, hno.out.2]; rfl, hB.out⟩
  | true =>
    obtain ⟨t, u, hgp, ht, hhd, hu, hfu, hzz⟩ := encZ_of (hf.1 rfl)
    have hyes := hd (encodeP_yes hr hzz)
    have hnp := (nodes_tree ln).2 ⟨hhd, u, hu⟩
    have hcu := enc_count u _ _ hu
    have hn40 := hhd.1.2
    have hsm := good_small ht.2
    have hcu9 : countK u ≤ 1000 := by omega
    have hsz := enc_size t ht.2.2.2.1 u hfu (by omega)
    have hip := in_parts (v := u) (n := 40) (by omega)
    have cu := hd (fun (rV rT : List Value) (w' : World) (lv hv lo hi : Nat) h1 h2 hV hT => bytes_s t u rV rT w' lv hv lo hi h1 h2 (by omega) (by omega) ht.2.2.2.1 hfu (by rw [ht.2.1]; decide) hip.1 hip.2 hV hT)
    have rA0 := hd (fun w' (hbb : Below w.heap.size w w') => r1.out w' hbb (by omega) hnp u hu)
    have rB0 := hd (fun w' (hbb : Below w.heap.size w w') => r0.out w' hbb hgp t ht)
    clear hf hcu hsm ht hgp hhd hu hnp r0 r1 hs hnm hl hln hfu hzz hr hip
    generalize encB t u = y at *
    have hzl : y.length ≤ 60000 := by omega
    have hms := hd (mkS_size y)
    go_enter Try.func36, Try.ntmps36
    go_wp2_with fail
    refine (cf.out _ (below_a2 _)).mono ?_
    rintro e w2 ⟨rfl, hb2⟩
    have qv0 := keepCell hb2 (show World.cell? _ ⟨w.heap.size, 0, none⟩ = some (.slice av ln.length cv) by go_simp)
    have qs0 := keepCell hb2 (show World.cell? _ ⟨w.heap.size + 1, 0, none⟩ = some (.slice a1 l.length c1) by go_simp)
    have hBk := hd ((below_a2 w).next hb2)
    clear hb2
    go_wp2_with fail
    go_region_held3 (fun w' => w'.cell? ⟨w.heap.size, 0, none⟩ = some (.slice av ln.length cv) ∧ w'.cell? ⟨w.heap.size + 1, 0, none⟩ = some (.slice a1 l.length c1))
      (first | go_keep | (go_split_ands; (repeat' apply And.intro) <;> first | exact keepCell hbA (by assumption) | exact keepCell hbB (by assumption) | exact keepCell hb9 (by assumption)))
      (first
        | (go_at_call 79; refine (cu.out rA rB _ _ _ _ _ hsA hsB hrA.out hrB.out).mono ?_; rintro e w9 ⟨rfl, hb9⟩)
        | (go_at_call 74; refine (rA0.out _ (by first | exact hBk.out.drew | exact hBk.out.drew.next hbB)).mono ?_; rintro e wA ⟨rA, rfl, hrA, hbA⟩; replace hrA := hd hrA; have hsA := Nat.le_refl wA.heap.size; (try replace hrB := hd (hrB.out.below (Nat.le_refl _) hbA)); (try replace hsB := Nat.le_trans hsB hbA.size))
        | (go_at_call 51; refine (rB0.out _ (by first | exact hBk.out.drew | exact hBk.out.drew.next hbA)).mono ?_; rintro e wB ⟨rB, rfl, hrB, hbB⟩; replace hrB := hd hrB; have hsB := Nat.le_refl wB.heap.size; (try replace hrA := hd (hrA.out.below (Nat.le_refl _) hbB)); (try replace hsA := Nat.le_trans hsA hbB.size)))
    all_goals
      have hb10 := hd (show Below w.heap.size w w9 from by first | exact hBk.out.drew.next (hbA.next (hbB.next hb9)) | exact hBk.out.drew.next (hbB.next (hbA.next hb9)))
      have hmi : ((mkS y).size : Int) ≤ 60000 := by have := hms.out; omega
      by_cases h4 : y.length ≤ 400
      · have hgt : ¬ (400 : Int) < (y.length : Int) := by omega
        have hres := hd (show z = y ∧ b = true by rw [hyes.out.1, hyes.out.2]; simp [h4])
        clear h4
        go_wp2_with fail
        go_ret2
        exact ⟨by rw [hres.out.1, hres.out.2]; rfl, hb10.out⟩
      · have hgt : (400 : Int) < (y.length : Int) := by omega
        have hres := hd (show z = [] ∧ b = false by rw [hyes.out.1, hyes.out.2]; simp [h4])
        clear h4
        go_wp2_with fail
        go_ret2
        exact ⟨by rw [hres.out.1, hres.out.2]; rfl, hb10.out⟩
end Go.Proofs.Ytobahkjbadamhaa
