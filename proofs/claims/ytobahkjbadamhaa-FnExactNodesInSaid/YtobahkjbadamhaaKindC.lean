/- Whether a tree of types is right: right of the program. -/
import Derived.Test.YtobahkjbadamhaaKindB
namespace Go.Proofs.Ytobahkjbadamhaa
open Go.RowKit
set_option linter.unusedVariables false
set_option maxRecDepth 100000
/-- A tree, and the pointer to it. -/
structure KV where
  k : K
  v : Value
def KV.enc (x : KV) : List Value := [x.v]
def kvs (ps : List K) (vs : List Value) : List KV := List.zipWith KV.mk ps vs
theorem kvs_len {ps : List K} {vs : List Value} (h : vs.length = ps.length) : (kvs ps vs).length = ps.length := by simp [kvs, h]
theorem kvs_map : ∀ {ps : List K} {vs : List Value}, vs.length = ps.length → (kvs ps vs).map KV.enc = vs.map encV := by
  intro ps
  induction ps with
  | nil => intro vs h; have : vs = [] := List.eq_nil_of_length_eq_zero (by simpa using h); subst this; rfl
  | cons p ps ih =>
    intro vs h
    cases vs with
    | nil => simp at h
    | cons v vs =>
      have := ih (vs := vs) (by simpa using h)
      simp only [kvs, List.zipWith_cons_cons, List.map_cons] at this ⊢
      rw [this]; rfl
theorem kvs_k : ∀ {ps : List K} {vs : List Value}, vs.length = ps.length → (kvs ps vs).map KV.k = ps := by
  intro ps
  induction ps with
  | nil => intro vs h; have : vs = [] := List.eq_nil_of_length_eq_zero (by simpa using h); subst this; rfl
  | cons p ps ih =>
    intro vs h
    cases vs with
    | nil => simp at h
    | cons v vs =>
      have := ih (vs := vs) (by simpa using h)
      simp only [kvs, List.zipWith_cons_cons, List.map_cons] at this ⊢
      rw [this]
theorem kvs_mem {ps : List K} {vs : List Value} (h : vs.length = ps.length) {x : KV} (hx : x ∈ kvs ps vs) : ∃ j, ∃ h1 : j < ps.length, ∃ h2 : j < vs.length, x = ⟨ps[j], vs[j]⟩ := by
  obtain ⟨j, hj, rfl⟩ := List.getElem_of_mem hx
  rw [kvs_len h] at hj
  exact ⟨j, hj, by omega, by simp [kvs]⟩
theorem kvs_any (f : K → Bool) {ps : List K} {vs : List Value} (h : vs.length = ps.length) : (kvs ps vs).any (fun x => f x.k) = ps.any f := by
  conv => rhs; rw [← kvs_k h]
  rw [List.any_map]; rfl
theorem Cells.rowKV {w : World} {b o : Nat} (l : List KV) (k : Nat) (h : k < l.length) (C : Cells w b o 1 (l.map KV.enc)) : w.cell? ⟨b, o + k, none⟩ = some l[k].v := by
  have := C.2 k (KV.enc l[k]) (by simp [h]) 0 _ rfl
  rw [Nat.mul_one, Nat.add_zero] at this; exact this
noncomputable def badK (o : Int) (p : K) : Bool := @decide (¬ (partOf o p ∧ rightK p)) (Classical.propDecidable _)
theorem badK_iff {o : Int} {p : K} : badK o p = true ↔ ¬ (partOf o p ∧ rightK p) := by simp [badK]
theorem right_iff {t : K} : rightK t ↔ partsOK t.of t.most t.parts ∧ t.parts.any (badK t.of) = false := by
  rw [List.any_eq_false]
  constructor
  · intro h
    obtain ⟨h1, h2, h3⟩ := h.ok
    exact ⟨h1, fun p hp => by rw [badK_iff]; exact fun g => g ⟨h2 p hp, h3 p hp⟩⟩
  · rintro ⟨h1, h2⟩
    obtain ⟨o, nm, no, mu, mo, ps⟩ := t
    have h3 : ∀ p ∈ ps, partOf o p ∧ rightK p := fun p hp => by
      have := h2 p hp; rw [badK_iff] at this; exact Classical.byContradiction this
    exact .mk _ _ _ _ _ _ h1 (fun p hp => (h3 p hp).1) (fun p hp => (h3 p hp).2)
set_option maxHeartbeats 800000 in
theorem ix_rt (cv : Value) (p : KV → Bool) (l : List KV) (v : Value) (w : World) (hl : l.length ≤ 1000000000000) (h : Sl w v 1 (l.map KV.enc))
    (hp : ∀ x ∈ l, ∀ w', Below w.heap.size w w' → Calls Try.prog 147 #[x.v, cv] w' (BoolPost (p x) w')) :
    Calls Try.prog 122 #[v, .func (.func 147) #[] #[cv]] w (IntPost (fidx p l) w) := by
  replace hp := hd hp
  rcases h.open with ⟨a1, c1, rfl, hr⟩ | ⟨b1, o1, c1, rfl, hr, C1⟩
  · obtain rfl : l = [] := by simpa using hr
    go_enter Try.func122, Try.ntmps122
    go_wp2
    go_loopw [8] (fun i wr => i = .int .i64 0 ∧ wr = w) (fun _ _ => 0)
    case atStart => exact ⟨rfl, rfl⟩
    case round =>
      obtain ⟨rfl, rfl⟩ := hrel
      go_wp2_with fail
      go_ret
      exact ⟨rfl, Below.refl _ _⟩
  · clear h
    simp only [List.length_map]
    go_enter Try.func122, Try.ntmps122
    go_wp2
    go_loopw [8] (fun i wr => ∃ k : Nat, k ≤ l.length ∧ i = .int .i64 k ∧ Hd (fidx_from p l k) ∧ Hd (Below w.heap.size w wr)) (fun i _ => l.length - (intOf i).toNat)
    case atStart => exact ⟨0, Nat.zero_le _, rfl, fidx_zero p l, Below.refl _ _⟩
    case round =>
      obtain ⟨k, hk, rfl, hfx, hbl⟩ := hrel
      by_cases hlt : k < l.length
      · have f0 := Cells.rowKV l k hlt (C1.mono hbl.out)
        cases hpx : p l[k] with
        | true =>
          replace hpx := hd hpx
          go_wp2_with fail
          refine (hp.out l[k] (List.getElem_mem hlt) _ hbl.out).mono ?_
          rw [hpx.out]
          rintro e w2 ⟨rfl, hb⟩
          have hb2 := hd (hbl.out.next hb)
          clear hb
          go_wp2_with fail
          go_ret
          exact ⟨ret_int (fidx_hit hlt hfx.out hpx.out).symm, hb2.out⟩
        | false =>
          replace hpx := hd hpx
          go_wp2_with fail
          refine (hp.out l[k] (List.getElem_mem hlt) _ hbl.out).mono ?_
          rw [hpx.out]
          rintro e w2 ⟨rfl, hb⟩
          have hb2 := hd (hbl.out.next hb)
          clear hb
          go_wp2_with fail
          go_roundw
          case rel => exact ⟨k + 1, by omega, by go_num, fidx_step hlt hfx.out hpx.out, hb2⟩
          case measure => simp [intOf]; omega
      · go_wp2_with fail
        go_ret
        exact ⟨ret_int (fidx_none (by omega) hfx.out).symm, hbl.out⟩
set_option maxHeartbeats 400000 in
theorem cf_rt (cv : Value) (p : KV → Bool) (l : List KV) (v : Value) (w : World) (hl : l.length ≤ 1000000000000) (h : Sl w v 1 (l.map KV.enc))
    (hp : ∀ x ∈ l, ∀ w', Below w.heap.size w w' → Calls Try.prog 147 #[x.v, cv] w' (BoolPost (p x) w')) (b : Bool) (hb : l.any p = b) :
    Calls Try.prog 146 #[v, .func (.func 147) #[] #[cv]] w (BoolPost b w) := by
  have hc := hd (fun w' (hb : Below w.heap.size w w') => ix_rt cv p l v w' hl (h.mono hb) (fun x hx w2 h2 => hp x hx w2 (hb.next h2)))
  have hany := hd hb
  have hany2 := fidx_any p l
  rw [hb] at hany2
  generalize fidx p l = r at hc hany2
  clear h hp hb
  cases b with
  | true =>
    have h0 : 0 ≤ r := hany2.2 rfl
    clear hany2
    go_enter Try.func146, Try.ntmps146
    go_wp2_with fail
    refine (hc.out _ (Below.refl _ _)).mono ?_
    rintro e w2 ⟨rfl, hb⟩
    replace hb := hd hb
    go_wp2_with fail
    go_ret
    exact ⟨rfl, hb.out⟩
  | false =>
    have h0 : decide (0 ≤ r) = false := by have := mt hany2.1 (by simp); simp; omega
    clear hany2
    go_enter Try.func146, Try.ntmps146
    go_wp2_with fail
    refine (hc.out _ (Below.refl _ _)).mono ?_
    rintro e w2 ⟨rfl, hb⟩
    replace hb := hd hb
    go_wp2_with fail
    go_ret
    exact ⟨rfl, hb.out⟩
set_option maxHeartbeats 800000 in
theorem right_cl (o : Int) (p : K) (vp : Value) (bk bt : Nat) (w : World) (lo hi : Nat) (q : w.cell? ⟨bk, 0, none⟩ = some (.pointer (some ⟨bt, 0, none⟩))) (q2 : w.cell? ⟨bt, 0, none⟩ = some (.int .i64 o))
    (hp : RepP w lo hi p vp) (hs : p.name.size ≤ 1000000000000) (hR : ∀ r, (r = true ↔ rightK p) → Calls Try.prog 130 #[vp] w (BoolPost r w)) :
    Calls Try.prog 147 #[vp, .pointer (some ⟨bk, 0, none⟩)] w (BoolPost (badK o p) w) := by
  obtain ⟨r1, h1⟩ := boolOf (partOf o p)
  obtain ⟨r2, h2⟩ := boolOf (rightK p)
  have cp := hd (partOf_i p vp o w lo hi hp hs r1 h1)
  have cr := hd (hR r2 h2)
  have hz := hd (show badK o p = (!r1 || !r2) by
    rw [Bool.eq_iff_iff, badK_iff, ← h1, ← h2]; cases r1 <;> cases r2 <;> simp)
  generalize badK o p = z at *
  clear hR h1 h2 hp
  cases r1 with
  | false =>
    go_enter Try.func147, Try.ntmps147
    go_wp2_with fail
    refine cp.out.mono ?_
    rintro e w2 ⟨rfl, rfl⟩
    go_wp2_with fail
    go_ret
    exact ⟨by rw [hz.out]; rfl, Below.refl _ _⟩
  | true =>
    go_enter Try.func147, Try.ntmps147
    go_wp2_with fail
    refine cp.out.mono ?_
    rintro e w2 ⟨rfl, rfl⟩
    go_wp2_with fail
    refine cr.out.mono ?_
    rintro e w2 ⟨rfl, hb⟩
    replace hb := hd hb
    go_wp2_with fail
    go_ret
    exact ⟨by rw [hz.out]; rfl, hb.out⟩
set_option maxHeartbeats 1600000 in
theorem right_i (t : K) : ∀ (v : Value) (w : World) (lo hi : Nat), hi ≤ w.heap.size → countK t ≤ 1000000 → nmOK t → RepP w lo hi t v → ∀ r, (r = true ↔ rightK t) → Calls Try.prog 130 #[v] w (BoolPost r w) := by
  refine K.ind2 (P := fun t => ∀ (v : Value) (w : World) (lo hi : Nat), hi ≤ w.heap.size → countK t ≤ 1000000 → nmOK t → RepP w lo hi t v → ∀ r, (r = true ↔ rightK t) → Calls Try.prog 130 #[v] w (BoolPost r w)) ?_ t
  intro t ih v w lo hi hh hc hnm h r hr
  have ih := hd ih
  obtain ⟨b, a, c, vs, rfl, hb, c0, c1, c2, c3, c4, c5, hS, hl, hg⟩ := h.open
  have hcc : countL t.parts ≤ 1000000 := by have := countK_eq t; omega
  have hpl : t.parts.length ≤ 1000000 := by have := len_count t.parts; omega
  obtain ⟨r1, h1⟩ := boolOf (partsOK t.of t.most t.parts)
  have cp := hd (fun w' (hb : Below w.heap.size w w') => partsOK_i t _ w' lo hi (h.below hh hb) (Nat.le_trans hh hb.size) hnm hpl r1 h1)
  rw [right_iff] at hr
  obtain ⟨r2, h2⟩ : ∃ z, t.parts.any (badK t.of) = z := ⟨_, rfl⟩
  have hz := hd (show r = (r1 && !r2) by
    rw [Bool.eq_iff_iff, hr, ← h1, h2]; cases r1 <;> cases r2 <;> simp)
  have ca := hd (fun w2 (hb2 : Below w.heap.size w w2) (q : w2.cell? ⟨w.heap.size, 0, none⟩ = some (.pointer (some ⟨b, 0, none⟩))) =>
    cf_rt (.pointer (some ⟨w.heap.size, 0, none⟩)) (fun x => badK t.of x.k) (kvs t.parts vs) (.slice a t.parts.length c) w2 (by rw [kvs_len hl]; omega)
      (by rw [kvs_map hl]; exact (hS.same (Same.below hb2 hh) (Nat.le_refl _) (Nat.le_refl _)).sl (Nat.le_trans hh hb2.size))
      (fun x hx w3 hb3 => by
        obtain ⟨j, j1, j2, rfl⟩ := kvs_mem hl hx
        have hb4 := hb2.next hb3
        have hm : t.parts[j] ∈ t.parts := List.getElem_mem j1
        have hp := (hg j j1 j2).below hh hb4
        exact right_cl t.of t.parts[j] vs[j] w.heap.size b w3 lo hi (keepCell hb3 q) (keepCell hb4 c0) hp (hnm.part hm).self
          (fun r hr => ih.out _ hm _ w3 lo hi (Nat.le_trans hh hb4.size) (Nat.le_trans (count_part hm) hcc) (hnm.part hm) hp r hr))
      r2 (by rw [kvs_any _ hl]; exact h2))
  have c5h := hd c5
  clear h h1 h2 hr hg hS c0 c1 c2 c3 c4 c5 hnm
  cases r1 with
  | false =>
    go_enter Try.func130, Try.ntmps130
    go_wp2_with fail
    refine (cp.out _ (below_a1 _)).mono ?_
    rintro e w2 ⟨rfl, hb2⟩
    have hB := hd ((below_a1 w).next hb2)
    clear hb2
    go_wp2_with fail
    go_ret
    exact ⟨by rw [hz.out]; rfl, hB.out⟩
  | true =>
    go_enter Try.func130, Try.ntmps130
    go_wp2_with fail
    refine (cp.out _ (below_a1 _)).mono ?_
    rintro e w2 ⟨rfl, hb2⟩
    have q := keepCell hb2 (show World.cell? _ ⟨w.heap.size, 0, none⟩ = some (.pointer (some ⟨b, 0, none⟩)) by go_simp)
    have hB := hd ((below_a1 w).next hb2)
    have c5' := keepCell hB.out c5h.out
    have ca2 := hd (ca.out w2 hB.out q)
    clear hb2
    go_wp2_with fail
    refine ca2.out.mono ?_
    rintro e w3 ⟨rfl, hb3⟩
    have hB3 := hd (hB.out.next hb3)
    clear hb3
    go_wp2_with fail
    go_ret
    exact ⟨by rw [hz.out]; rfl, hB3.out⟩
end Go.Proofs.Ytobahkjbadamhaa
