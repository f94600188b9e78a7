/- SubSchema of both sides. -/
import Derived.Test.YtobahkjbadamhaaSchema
namespace Go.Proofs.Ytobahkjbadamhaa
open Go.RowKit
set_option linter.unusedVariables false
set_option maxRecDepth 100000
theorem Out.stuck {l : List DType} {a e : Nat} (hw : ∀ i, i < l.length → U l i < (i : Int)) (he : 0 < e) (hel : e ≤ l.length) (h : Out l a e) : Stuck l a e := by
  intro b hb hA hho hu
  obtain ⟨hbl, _⟩ := hho
  have hle := hA.le (n := e - 1) (fun i hi => hw i (by omega)) (Nat.le_refl _)
  have hlt := U_lt hu
  rcases h e (Nat.le_refl _) hlt with g | g <;> omega
def subC (l : List DType) (k : Int) : Prop := goodP l ∧ 0 ≤ k ∧ k < (l.length : Int) ∧ ∃ h : k.toNat < l.length, l[k.toNat].kind = 5
def subP (l : List DType) (k : Int) (b : Bool) (r : List DType) : Prop := (b = true ↔ subC l k) ∧ (b = true → ∃ t, Sb l k.toNat t ∧ goodK (wholeK t) ∧ r = rowsK (wholeK t) (-1) 0) ∧ (b = false → r = [])
theorem sub_part {l : List DType} {k : Nat} (hg : goodP l) (hk : k < l.length) : ∃ t r, treeOf l r ∧ Sb l k t ∧ InK t r := by
  obtain ⟨r, hr⟩ := good_tree hg
  obtain ⟨t, h1, h2⟩ := enc_in r _ _ hr.1 (fun i h1 h2 => by omega) k (Nat.zero_le _) hk
  exact ⟨t, r, hr, h1, h2⟩
theorem good_up3 {l : List DType} (h : goodP l) : ∀ i, i < l.length → U l i < (i : Int) := preL_up ((flat_iff h.1.1).1 h.1).1 (Nat.le_refl _)
theorem subP_ex (l : List DType) (k : Int) : ∃ b r, subP l k b r ∧ r.length ≤ 30 := by
  by_cases h : subC l k
  · obtain ⟨hg, h0, h1, hk, h5⟩ := h
    obtain ⟨t, r, hr, hS, hI⟩ := sub_part hg hk
    have hw : goodK (wholeK t) := whole_good hr.2 hI (by
      obtain ⟨_, ⟨e1, _⟩, _⟩ := hS.at
      rw [← e1]; exact h5)
    refine ⟨true, rowsK (wholeK t) (-1) 0, ⟨⟨fun _ => ⟨hg, h0, h1, hk, h5⟩, fun _ => rfl⟩, fun _ => ⟨t, hS, hw, rfl⟩, fun e => by cases e⟩, ?_⟩
    rw [rows_count]; exact good_small hw
  · exact ⟨false, [], ⟨⟨(by intro e; cases e), fun g => absurd g h⟩, (by intro e; cases e), fun _ => rfl⟩, by simp⟩
theorem subP_true {l : List DType} {k : Int} {r : List DType} (h : subP l k true r) : ∃ (j : Nat) (t : K) (e : Nat), k = (j : Int) ∧ ∃ hj : j < l.length, l[j].kind = 5 ∧ goodP l ∧ Sb l j t ∧ enc l t j e ∧ Stuck l j e ∧ goodK (wholeK t) ∧ r = rowsK (wholeK t) (-1) 0 ∧ countK t ≤ 30 := by
  obtain ⟨h1, h2, _⟩ := h
  obtain ⟨hg, h0, hkl, hk, h5⟩ := h1.1 rfl
  obtain ⟨t, hS, hw, hr⟩ := h2 rfl
  obtain ⟨e, he, ho⟩ := hS
  have hbd := enc_bd t _ _ he
  refine ⟨k.toNat, t, e, by omega, hk, h5, hg, ⟨e, he, ho⟩, he, ho.stuck (good_up3 hg) (by have := hbd.1; omega) hbd.2.1, hw, hr, ?_⟩
  have := good_small hw
  obtain ⟨o, nm, no, mu, mo, ps⟩ := t
  rw [wholeK, countK] at this
  rw [countK]; exact this
theorem nb {b : Bool} {P : Prop} (h : b = true ↔ P) (hn : ¬ P) : b = false := by rw [← Bool.not_eq_true, h]; exact hn
set_option maxHeartbeats 3200000 in
theorem SubSchema_i (l : List DType) (k : Int) (v : Value) (w : World) (hl : l.length ≤ 1000000000) (hs : ∀ x ∈ l, x.name.size ≤ 1000000000000) (h : Sl w v 6 (l.map DType.enc)) (b : Bool) (r : List DType) (hr : subP l k b r) :
    Calls Try.prog 17 #[.agg #[v], .int .i64 k] w (AggbPost 71 6 (r.map DType.enc) b w) := by
  obtain ⟨g, hg⟩ := boolOf (goodP l)
  have cg := hd (fun w' (hbb : Below w.heap.size w w') => GoodSchema_i l v w' (by omega) hs (h.mono hbb) g hg)
  obtain ⟨a1, c1, rfl, hrr⟩ := h
  have hrr := hd hrr
  simp only [List.length_map] at cg ⊢
  have hw1 : IntKind.i64.wrap ((l.length : Int) - 1) = (l.length : Int) - 1 := IntWalk.i64_in _ (by omega)
  cases g with
  | false =>
    have hbf := hd (nb hr.1 (fun q => absurd (hg.2 q.1) (by simp)))
    have hrf := hd (hr.2.2 hbf.out)
    clear hr hg
    go_enter Try.func17, Try.ntmps17
    go_wp2_with fail
    refine (cg.out _ (below_a2 _)).mono ?_
    rintro e w2 ⟨rfl, hb2⟩
    have hx2 := Box1.below (b := w.heap.size + 1) (v := .slice none 0 0) ⟨by go_simp, by go_simp⟩ hb2
    have Q1 := hx2.1; have Q2 := hx2.2
    have hB := hd ((below_a2 w).next hb2)
    clear hb2 hx2
    go_wp2_with fail
    refine bodyPost_ret (v := .tuple #[.agg #[.slice none 0 0], .bool false]) (by simp [results, Try.results17, go_sem, Q1]) rfl ⟨_, none, by rw [hbf.out], by rw [hrf.out]; exact OwnR.nil, ?_⟩
    exact hB.out.setCell (by simp) _
  | true =>
    by_cases hkk : 0 ≤ k ∧ k ≤ (l.length : Int) - 1
    · obtain ⟨j, rfl⟩ := Int.eq_ofNat_of_zero_le hkk.1
      have hjl : j < l.length := by omega
      have hjI : (j : Int) < (l.length : Int) := by omega
      have cw := hd (fun w => within_i (j : Int) 0 ((l.length : Int) - 1) w true (by simpa using hkk))
      obtain ⟨b1, o1, rfl, C1⟩ := rows_at hrr.out (k := j) (by rw [List.length_map]; exact hjl)
      by_cases h5 : l[j].kind = 5
      · have hbt := hd (show b = true from hr.1.2 ⟨hg.1 rfl, by omega, by omega, by simpa using hjl, by simpa using h5⟩)
        obtain ⟨j', t, e, hj', _, _, hgp, hS, he, hst, hw, hrr2, hct⟩ := subP_true (by rw [← hbt.out]; exact hr)
        obtain rfl : j = j' := by omega
        have hrt := hd hrr2
        have C := hd C1
        have ck := hd (fun w' (hb : Below w.heap.size w w') => kindFrom_i l b1 o1 c1 (by have := (good_len' hgp).2; omega) t j e w' he hst (C.out.mono hb))
        have hw := hd hw
        obtain ⟨f0, f1, f2, f3, f4, f5⟩ := Cells.rowType l j hjl C1
        rw [h5] at f0
        clear hr hg hkk hj' hrr2 hgp hS he hst C1 h5 hrr f1 f2 f3 f4 f5 hct
        go_enter Try.func17, Try.ntmps17
        go_wp2_with fail
        refine (cg.out _ (below_a2 _)).mono ?_
        rintro e2 w2 ⟨rfl, hb2⟩
        have q := keepCell hb2 (show World.cell? _ ⟨w.heap.size, 0, none⟩ = some (.slice (some ⟨b1, o1, none⟩) l.length c1) by go_simp)
        have hx2 := hd (Box1.below (b := w.heap.size + 1) (v := .slice none 0 0) ⟨by go_simp, by go_simp⟩ hb2)
        have hB := hd ((below_a2 w).next hb2)
        have f02 := keepCell hB.out f0
        have hz2 : w.heap.size + 2 ≤ w2.heap.size := by have := hb2.size; simpa using this
        clear hb2 f0
        go_wp2_with fail
        refine (cw.out _).mono ?_
        rintro e3 w' ⟨rfl, rfl⟩
        go_wp2_with fail
        refine (ck.out _ hB.out).mono ?_
        rintro e4 w4 ⟨vp, rfl, hrp, hb4⟩
        obtain ⟨bp, _, _, _, rfl, _⟩ := hrp.open
        have hx4 := hd (hx2.out.below hb4)
        have hB4 := hd (hB.out.next hb4)
        have cwh := hd (whole_i t _ w4 _ _ hb4.size (Nat.le_refl _) hrp)
        have hb4z := hb4.size
        clear hb4 hrp q f02
        go_wp2_with fail
        refine cwh.out.mono ?_
        rintro e5 w5 ⟨v5, rfl, hr5, hb5⟩
        have cs := hd (schema_i (wholeK t) v5 w5 _ _ (Nat.le_refl _) hw.out hr5)
        obtain ⟨bp5, _, _, _, rfl, _⟩ := hr5.open
        have hx5 := hd (hx4.out.below hb5)
        have hB5 := hd (hB4.out.next hb5)
        have hb5z := hb5.size
        clear hb5 hr5
        go_wp2_with fail
        refine cs.out.mono ?_
        rintro e6 w6 ⟨v6, rb6, rfl, ho6, hb6⟩
        have hx6 := hd (hx5.out.below hb6)
        have hB6 := hd (hB5.out.next hb6)
        rw [← hrt.out] at ho6
        obtain ⟨a6, c6, rfl, hjk⟩ := ho6.sl
        clear hjk
        simp only [List.length_map] at ho6 ⊢
        have Q1 := hx6.out.1; have Q2 := hx6.out.2
        replace ho6 := hd ho6
        clear hb6
        go_wp2_with fail
        refine bodyPost_ret (v := .tuple #[.agg #[.slice a6 r.length c6], .bool true]) (by simp [results, Try.results17, go_sem, Q1]) rfl ?_
        rw [hbt.out]
        exact AggbPost.of (rb := rb6) (ownR_store ho6.out (by first | omega | (simp; omega)) (by first | omega | (simp; omega))) (hB6.out.setCell (by simp) _)
      · have hbf := hd (nb hr.1 (fun q => h5 (by obtain ⟨_, _, _, hh, q5⟩ := q; simpa using q5)))
        have hrf := hd (hr.2.2 hbf.out)
        obtain ⟨f0, f1, f2, f3, f4, f5⟩ := Cells.rowType l j hjl C1
        have h5b : (l[j].kind != 5) = true := by simpa using h5
        generalize l[j].kind = kk at *
        clear hr hg hkk C1 h5 hrr f1 f2 f3 f4 f5
        go_enter Try.func17, Try.ntmps17
        go_wp2_with fail
        refine (cg.out _ (below_a2 _)).mono ?_
        rintro e2 w2 ⟨rfl, hb2⟩
        have q := keepCell hb2 (show World.cell? _ ⟨w.heap.size, 0, none⟩ = some (.slice (some ⟨b1, o1, none⟩) l.length c1) by go_simp)
        have hx2 := hd (Box1.below (b := w.heap.size + 1) (v := .slice none 0 0) ⟨by go_simp, by go_simp⟩ hb2)
        have hB := hd ((below_a2 w).next hb2)
        have f02 := keepCell hB.out f0
        have Q1 := hx2.out.1; have Q2 := hx2.out.2
        clear hb2 f0
        go_wp2_with fail
        refine (cw.out _).mono ?_
        rintro e3 w' ⟨rfl, rfl⟩
        go_wp2_with fail
        refine bodyPost_ret (v := .tuple #[.agg #[.slice none 0 0], .bool false]) (by simp [results, Try.results17, go_sem, Q1]) rfl ⟨_, none, by rw [hbf.out], by rw [hrf.out]; exact OwnR.nil, ?_⟩
        exact hB.out.setCell (by simp) _
    · have cw := hd (fun w => within_i k 0 ((l.length : Int) - 1) w false (by simp; omega))
      have hbf := hd (nb hr.1 (fun q => hkk ⟨q.2.1, by have := q.2.2.1; omega⟩))
      have hrf := hd (hr.2.2 hbf.out)
      clear hr hg hkk
      go_enter Try.func17, Try.ntmps17
      go_wp2_with fail
      refine (cg.out _ (below_a2 _)).mono ?_
      rintro e w2 ⟨rfl, hb2⟩
      have q := keepCell hb2 (show World.cell? _ ⟨w.heap.size, 0, none⟩ = some (.slice a1 l.length c1) by go_simp)
      have hx2 := Box1.below (b := w.heap.size + 1) (v := .slice none 0 0) ⟨by go_simp, by go_simp⟩ hb2
      have Q1 := hx2.1; have Q2 := hx2.2
      have hB := hd ((below_a2 w).next hb2)
      clear hb2 hx2
      go_wp2_with fail
      refine (cw.out _).mono ?_
      rintro e w' ⟨rfl, rfl⟩
      go_wp2_with fail
      refine bodyPost_ret (v := .tuple #[.agg #[.slice none 0 0], .bool false]) (by simp [results, Try.results17, go_sem, Q1]) rfl ⟨_, none, by rw [hbf.out], by rw [hrf.out]; exact OwnR.nil, ?_⟩
      exact hB.out.setCell (by simp) _
end Go.Proofs.Ytobahkjbadamhaa
