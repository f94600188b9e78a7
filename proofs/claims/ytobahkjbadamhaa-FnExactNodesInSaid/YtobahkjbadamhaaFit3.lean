/- Whether a value fits a type as a whole: fits, FitsSchema, NodesIn of the program. -/
import Derived.Test.YtobahkjbadamhaaFit2
import Derived.Deep.RegionHeld3
namespace Go.Proofs.Ytobahkjbadamhaa
open Go.RowKit
set_option linter.unusedVariables false
set_option maxRecDepth 100000
/-- A tree that takes all of a list, and one that was read greedily from its front, are one. -/
theorem whole_uniq {L : List DType} {v v' : K} {e : Nat} (h : enc L v 0 L.length) (h' : enc L v' 0 e) (hs : Stuck L 0 e) : v' = v ∧ e = L.length := by
  obtain ⟨b1, b2, b3⟩ := enc_bd v' _ _ h'
  have he : e = L.length := by
    by_cases hlt : e < L.length
    · exfalso
      obtain ⟨q, hq, hA, hql, hho⟩ := (enc_sp v _ _ h).2 e (by omega) hlt
      exact hs q (Nat.zero_le _) hA ⟨hql, hho⟩ hq
    · omega
  subst he
  exact ⟨Sb.uniq v' 0 v (enc_out h') (enc_out h), rfl⟩
def headP (l : List DNode) : Prop := (1 ≤ l.length ∧ l.length ≤ 40) ∧ ∃ h : 0 < l.length, l[0].up = -1 ∧ l[0].no = 0
theorem headP.up {l : List DNode} (h : headP l) (h0 : 0 < l.length) : l[0].up = -1 ∧ l[0].no = 0 := by obtain ⟨_, _, h1⟩ := h; exact h1
def fitV (t : K) (l : List DNode) : Prop := headP l ∧ ∃ v, enc (trees l) v 0 l.length ∧ fitsB t v = true
set_option maxHeartbeats 3200000 in
theorem fits_i (l : List DNode) (hl : l.length ≤ 1000000000) (hnm : ∀ x ∈ l, x.text.size ≤ 1000000000000) (t : K) (vv vt : Value) (w : World) (lo hi : Nat) (hh : hi ≤ w.heap.size) (hr : rightK t) (hct : countK t ≤ 1000000) (hS : Sl w vv 5 (l.map DNode.enc)) (hR : RepP w lo hi t vt) (r : Bool) (hrr : r = true ↔ fitV t l) :
    Calls Try.prog 76 #[vt, .agg #[vv]] w (BoolPost r w) := by
  by_cases hn : 1 ≤ l.length ∧ l.length ≤ 40
  · rcases hS.open with ⟨a1, c1, rfl, hrw⟩ | ⟨b1, o1, c, rfl, hrw, C⟩
    · exfalso; have : l = [] := by simpa using hrw
      subst this; simp at hn
    have hn0 : 0 < l.length := by omega
    rw [List.length_map]
    have cw := hd (fun w => within_i (l.length : Int) 1 40 w true (by simp; omega))
    obtain ⟨f0, f1, f2, f3, f4⟩ := Cells.rowNode l 0 hn0 C
    rw [Nat.zero_mul, Nat.add_zero] at f2 f3
    have hnI : (0 : Int) < (l.length : Int) := by omega
    have q0 := hd (show (w.alloc (.cells #[.slice (some ⟨b1, o1, none⟩) l.length c] 39)).cell? ⟨w.heap.size, 0, none⟩ = some (.slice (some ⟨b1, o1, none⟩) l.length c) by go_simp)
    have hB := hd (below_a1 w (a := .cells #[.slice (some ⟨b1, o1, none⟩) l.length c] 39))
    by_cases hu : l[0].up = -1
    · by_cases hno : l[0].no = 0
      · obtain ⟨v, e, g1, g2⟩ := parse (l := trees l) l.length 0 (by rw [trees_len]; omega) (by rw [trees_len]; exact hn0) (fun i hi => by
          have : i = 0 := by omega
          subst this; rw [UN_at hn0, hu]; omega)
        have hz := hd (show r = (fitR (fitsB t v) e == (l.length : Int)) by
          rw [Bool.eq_iff_iff, hrr, beq_iff_eq]
          constructor
          · rintro ⟨_, v', h1, h2⟩
            obtain ⟨rfl, rfl⟩ := whole_uniq (by rw [trees_len]; exact h1) g1 g2
            rw [h2, trees_len]; rfl
          · intro h
            have hb : fitsB t v = true := by
              cases hb : fitsB t v with
              | true => rfl
              | false => rw [hb] at h; change (-1 : Int) = _ at h; omega
            rw [hb] at h
            change (e : Int) = _ at h
            have he : e = l.length := by omega
            subst he
            exact ⟨⟨hn, hn0, hu, hno⟩, v, g1, hb⟩)
        have cf := hd (fun w' (hb : Below w.heap.size w w') => fit_i l b1 o1 c (by omega) hnm t v 0 e vt w' lo hi (Nat.le_trans hh hb.size) hr hct g1 g2 (C.mono hb) (hR.below hh hb))
        obtain ⟨bk, _, _, _, rfl, hjk⟩ := hR.open
        rw [hu] at f3
        rw [hno] at f2
        have k2 := keepCell hB.out f2
        have k3 := keepCell hB.out f3
        clear hjk f0 f1 f2 f3 f4 g1 g2 hu hno hrr hR hS hrw
        generalize fitR (fitsB t v) e = z at *
        go_enter Try.func76, Try.ntmps76
        go_upto_region 1 with (fail)
        go_region_held3 (fun w' => w'.cell? ⟨w.heap.size, 0, none⟩ = some (.slice (some ⟨b1, o1, none⟩) l.length c) ∧ w'.cell? ⟨b1, o1 + 3, none⟩ = some (.int .i64 (-1)) ∧ w'.cell? ⟨b1, o1 + 2, none⟩ = some (.int .i64 0))
          (first | go_keep | (go_split_ands; refine ⟨?_, ?_, ?_⟩ <;> exact keepCell hbA (by assumption)))
          (first | (go_at_call 55; refine (cw.out _).mono ?_; rintro eA wA ⟨rfl, rfl⟩) | (go_at_call 86; refine (cf.out _ (by first | exact hB.out.drew | exact hB.out)).mono ?_; rintro eA wA ⟨rfl, hbA⟩))
        all_goals
          have hb10 := hd ((hB.out.drew).next hbA)
          go_wp2_with fail
          go_ret
          exact ⟨by rw [hz.out]; rfl, hb10.out⟩
      · have hzf := hd (nb hrr (fun q => hno (q.1.up hn0).2))
        have hnob : (l[0].no == 0) = false := by simpa using hno
        rw [hu] at f3
        have k2 := keepCell hB.out f2
        have k3 := keepCell hB.out f3
        obtain ⟨bk, _, _, _, rfl, hjk⟩ := hR.open
        clear hjk f0 f1 f2 f3 f4 hu hno hrr hR hS hrw
        generalize l[0].no = n0 at *
        go_enter Try.func76, Try.ntmps76
        go_upto_region 1 with (fail)
        go_quiet ((go_at_call 55; exact Calls.quiet_of_same ((cw.out _).mono fun e w' h => ⟨h.1, h.2.symm⟩)))
        go_wp2_with fail
        go_ret
        exact ⟨by rw [hzf.out]; rfl, below_drewN (below_a1 _) _⟩
    · have hzf := hd (nb hrr (fun q => hu (q.1.up hn0).1))
      have hub : (l[0].up == -1) = false := by simpa using hu
      have k3 := keepCell hB.out f3
      obtain ⟨bk, _, _, _, rfl, hjk⟩ := hR.open
      clear hjk f0 f1 f2 f3 f4 hu hrr hR hS hrw
      generalize l[0].up = n0 at *
      go_enter Try.func76, Try.ntmps76
      go_upto_region 1 with (fail)
      go_quiet ((go_at_call 55; exact Calls.quiet_of_same ((cw.out _).mono fun e w' h => ⟨h.1, h.2.symm⟩)))
      go_wp2_with fail
      go_ret
      exact ⟨by rw [hzf.out]; rfl, below_drewN (below_a1 _) _⟩
  · have hzf := hd (nb hrr (fun q => hn q.1.1))
    have cw := hd (fun w => within_i (l.length : Int) 1 40 w false (by simp; omega))
    obtain ⟨a1, c1, rfl, hjs⟩ := hS
    obtain ⟨bk, _, _, _, rfl, hjk⟩ := hR.open
    simp only [List.length_map]
    clear hjk hjs hrr hR
    go_enter Try.func76, Try.ntmps76
    go_upto_region 1 with (fail)
    go_quiet ((go_at_call 55; exact Calls.quiet_of_same ((cw.out _).mono fun e w' h => ⟨h.1, h.2.symm⟩)))
    go_wp2_with fail
    go_ret
    exact ⟨by rw [hzf.out]; rfl, below_drewN (below_a1 _) _⟩
/-- A value fits a schema. -/
def fitP (ln : List DNode) (l : List DType) : Prop := goodP l ∧ ∃ t, treeOf l t ∧ fitV t ln
theorem fitP_of {ln : List DNode} {l : List DType} {t : K} (hg : goodP l) (ht : treeOf l t) : fitP ln l ↔ fitV t ln := by
  constructor
  · rintro ⟨_, t', h1, h2⟩
    rw [treeOf_uniq ht h1]; exact h2
  · intro h; exact ⟨hg, t, ht, h⟩
set_option maxHeartbeats 3200000 in
theorem FitsSchema_i (ln : List DNode) (l : List DType) (vv v : Value) (w : World) (hln : ln.length ≤ 1000000000) (hl : l.length ≤ 1000000000) (hnm : ∀ x ∈ ln, x.text.size ≤ 1000000000000) (hs : ∀ x ∈ l, x.name.size ≤ 1000000000000) (hV : Sl w vv 5 (ln.map DNode.enc)) (h : Sl w v 6 (l.map DType.enc)) (r : Bool) (hr : r = true ↔ fitP ln l) :
    Calls Try.prog 31 #[.agg #[vv], .agg #[v]] w (BoolPost r w) := by
  obtain ⟨g, hg⟩ := boolOf (goodP l)
  have ck := hd (fun w' (hbb : Below w.heap.size w w') => kindOf_i l v w' (by omega) hs (h.mono hbb) g hg)
  have hV0 := hd hV
  obtain ⟨a1, c1, rfl, _⟩ := h
  obtain ⟨av, cv, rfl, _⟩ := hV
  simp only [List.length_map] at ck hV0 ⊢
  replace hr := hd hr
  replace hg := hd hg
  go_enter Try.func31, Try.ntmps31
  go_wp2_with fail
  refine (ck.out _ (below_a2 _)).mono ?_
  intro e w2 hp
  cases g with
  | true =>
    obtain ⟨t, vp, rfl, ht, hrp, hb2⟩ := KoPost_t hp
    have hgp := hg.out.1 rfl
    have hsm := good_small ht.2
    have q := keepCell hb2 (show World.cell? _ ⟨w.heap.size, 0, none⟩ = some (.slice av ln.length cv) by go_simp)
    have hB := hd ((below_a2 w).next hb2)
    have cf := hd (fits_i ln hln hnm t _ vp w2 _ _ (Nat.le_refl _) ht.2.2.2.1 (by omega) (hV0.out.mono hB.out) hrp r (by rw [hr.out]; exact fitP_of hgp ht))
    obtain ⟨bp, _, _, _, rfl, hjk⟩ := hrp.open
    clear hp hb2 hrp ht hgp hjk
    go_wp2_with fail
    refine cf.out.mono ?_
    rintro e3 w3 ⟨rfl, hb3⟩
    have hB3 := hd (hB.out.next hb3)
    clear hb3
    go_wp2_with fail
    go_ret
    exact ⟨rfl, hB3.out⟩
  | false =>
    obtain ⟨rfl, hb2⟩ := KoPost_f hp
    have hrf := hd (nb hr.out (fun q => absurd (hg.out.2 q.1) (by simp)))
    have hB := hd ((below_a2 w).next hb2)
    clear hp hb2
    go_wp2_with fail
    go_ret
    exact ⟨by rw [hrf.out]; rfl, hB.out⟩
end Go.Proofs.Ytobahkjbadamhaa
