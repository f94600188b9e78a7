/- Whether nodes are one tree: l4Nodes of the reference. -/
import Derived.Test.YtobahkjbadamhaaTreeV
import Derived.Test.YtobahkjbadamhaaFit3
namespace Go.Proofs.Ytobahkjbadamhaa
open Go.RowKit
set_option linter.unusedVariables false
set_option maxRecDepth 100000
def okN (l : List DNode) (k : Nat) : Prop := ∀ h : k < l.length, if k = 0 then l[k].up = -1 ∧ l[k].no = 0 else aroundP (trees l) k
def nodesP (l : List DNode) : Prop := (1 ≤ l.length ∧ l.length ≤ 40) ∧ ∀ k, okN l k
theorem nodes_tree (l : List DNode) : nodesP l ↔ headP l ∧ ∃ v, enc (trees l) v 0 l.length := by
  constructor
  · rintro ⟨hn, hk⟩
    have h0 : 0 < l.length := by omega
    have hh := hk 0 h0
    rw [if_pos rfl] at hh
    refine ⟨⟨hn, h0, hh⟩, ?_⟩
    obtain ⟨v, e, g1, g2⟩ := parse (l := trees l) l.length 0 (by rw [trees_len]; omega) (by rw [trees_len]; exact h0) (fun i hi => by
      have : i = 0 := by omega
      subst this; rw [UN_at h0, hh.1]; omega)
    obtain ⟨b1, b2, b3⟩ := enc_bd v _ _ g1
    have he : e = l.length := by
      rw [trees_len] at b2
      by_cases hlt : e < l.length
      · exfalso
        have := hk e hlt
        rw [if_neg (by omega)] at this
        obtain ⟨q, hq, hA, hql, hho⟩ := this
        exact g2 q (Nat.zero_le _) hA ⟨hql, hho⟩ hq
      · omega
    exact ⟨v, by rw [← he]; exact g1⟩
  · rintro ⟨⟨hn, h0, hh⟩, v, hv⟩
    refine ⟨hn, fun k hk => ?_⟩
    by_cases hk0 : k = 0
    · subst hk0; rw [if_pos rfl]; exact hh
    · rw [if_neg hk0]
      exact (enc_sp v _ _ hv).2 k (by omega) hk
theorem ok_up {l : List DNode} {i : Nat} (hok : ∀ k, k < i → okN l k) : ∀ k, k < i → U (trees l) k < (k : Int) := by
  intro k
  induction k using Nat.strongRecOn with
  | _ k ih =>
    intro hk
    by_cases hkl : k < l.length
    · have h2 := hok k hk hkl
      by_cases hk0 : k = 0
      · subst hk0; rw [if_pos rfl] at h2; rw [UN_at hkl, h2.1]; omega
      · rw [if_neg hk0] at h2
        obtain ⟨q, hq, hA, _⟩ := h2
        have := hA.le (n := k - 1) (fun j hj => ih j (by omega) (by omega)) (Nat.le_refl _)
        omega
    · rw [UN_no (by omega)]; omega
set_option maxHeartbeats 6400000 in
theorem nodes_s (l : List DNode) (vv : Value) (w : World) (hl : l.length ≤ 1000000000) (h : Sl w vv 5 (l.map DNode.enc)) (r : Bool) (hr : r = true ↔ nodesP l) :
    Calls Try.prog 72 #[.agg #[vv]] w (BoolPost r w) := by
  have hfin := hd (fun (hk : ∀ k, k < l.length → okN l k) w => within_s (l.length : Int) 1 40 w r (by
    rw [Bool.eq_iff_iff, hr, nodesP, decide_eq_true_eq]
    constructor
    · rintro ⟨h1, h2⟩
      refine ⟨⟨by omega, by omega⟩, fun k => ?_⟩
      by_cases h3 : k < l.length
      · exact hk k h3
      · intro h4; exact absurd h4 h3
    · rintro ⟨⟨h1, h2⟩, _⟩; exact ⟨by omega, by omega⟩))
  have hbad := hd (fun k (h : ¬ okN l k) => nb hr (fun q => h (q.2 k)))
  clear hr
  rcases h.open with ⟨a1, c1, rfl, hrw⟩ | ⟨b1, o1, c, rfl, hrw, C⟩
  · obtain rfl : l = [] := by simpa using hrw
    have hfin := hd (hfin.out (fun k h => by simp at h))
    go_enter Try.func72, Try.ntmps72
    go_wp2_with fail
    go_loopw [10] (fun i wr => i = .int .i64 0 ∧ wr = w.alloc (.cells #[.slice a1 0 c1] 39)) (fun _ _ => 0)
    case atStart => exact ⟨rfl, rfl⟩
    case round =>
      obtain ⟨rfl, rfl⟩ := hrel
      go_wp2_with fail
      refine (hfin.out _).mono ?_
      rintro e w' ⟨rfl, rfl⟩
      go_wp2_with fail
      go_ret
      exact ⟨rfl, below_a1 _⟩
  · clear h
    rw [List.length_map]
    have hC := hd C
    have q0 := hd (show (w.alloc (.cells #[.slice (some ⟨b1, o1, none⟩) l.length c] 39)).cell? ⟨w.heap.size, 0, none⟩ = some (.slice (some ⟨b1, o1, none⟩) l.length c) by go_simp)
    have hB := hd (below_a1 w (a := .cells #[.slice (some ⟨b1, o1, none⟩) l.length c] 39))
    clear C hrw
    go_enter Try.func72, Try.ntmps72
    go_upto_region 1 with (fail)
    generalize w.alloc (.cells #[.slice (some ⟨b1, o1, none⟩) l.length c] 39) = W at *
    have q1 := q0.out
    go_wp2_with fail
    clear q1
    go_loopw [10] (fun ix wr => ∃ i : Nat, i ≤ l.length ∧ ix = .int .i64 i ∧ Hd (∀ k, k < i → okN l k) ∧ Hd (Below W.heap.size W wr)) (fun ix _ => l.length - (intOf ix).toNat)
    case atStart => exact ⟨0, Nat.zero_le _, rfl, fun k h => by omega, Below.refl _ _⟩
    case round =>
      obtain ⟨i, hi, rfl, hok, hbl⟩ := hrel
      obtain ⟨wo, rfl⟩ : ∃ wo : World, wo = wr := ⟨_, rfl⟩
      have hbw := hd (hB.out.next hbl.out)
      have qo := keepCell hbl.out q0.out
      by_cases hlt : i < l.length
      · have hltI : (i : Int) < (l.length : Int) := by omega
        obtain ⟨f0, f1, f2, f3, f4⟩ := Cells.rowNode l i hlt (hC.out.mono hbw.out)
        have hUi := hd (UN_at hlt)
        have hbi := hd (hbad.out i)
        have hnext := hd (fun (h : okN l i) => (show ∀ k, k < i + 1 → okN l k from fun k hk => by
          by_cases e : k = i
          · subst e; exact h
          · exact hok.out k (by omega)))
        have hX := hd (fun E => BoxN.new wo [.int .i64 l[i].num, .string l[i].text, .int .i64 l[i].no, .int .i64 l[i].up, .bool l[i].many] E)
        have hbn := hd (fun o => hbw.out.next (below_a1 wo (a := o)))
        have hln := hd (fun o => hbl.out.next (below_a1 wo (a := o)))
        by_cases hi0 : i = 0
        · subst hi0
          rw [Nat.zero_mul, Nat.add_zero] at f0 f1 f2 f3 f4
          have hokz := hd (show (l[0].up = -1 ∧ l[0].no = 0) → okN l 0 from fun h _ => by rw [if_pos rfl]; exact h)
          have hnok := hd (show ¬ (l[0].up = -1 ∧ l[0].no = 0) → ¬ okN l 0 from fun h g => h (by have := g hlt; rw [if_pos rfl] at this; exact this))
          clear hX
          generalize l[0].num = xn at *
          generalize l[0].text = xt at *
          generalize l[0].many = xm at *
          generalize l[0].up = xu at *
          generalize l[0].no = xo at *
          by_cases hu : xu = -1
          · subst hu
            by_cases ho : xo = 0
            · subst ho
              have hn2 := hd (hnext.out (hokz.out ⟨rfl, rfl⟩))
              go_wp2_with fail
              go_roundw
              case rel => exact ⟨0 + 1, by omega, by go_num, hn2, hln.out _⟩
              case measure => simp [intOf]; omega
            · have hob : (xo != 0) = true := by simpa using ho
              have hrf := hd (hbi.out (hnok.out (fun q => ho q.2)))
              go_wp2_with fail
              go_ret
              exact ⟨by rw [hrf.out]; rfl, hbn.out _⟩
          · have hub : (xu != -1) = true := by simpa using hu
            have hrf := hd (hbi.out (hnok.out (fun q => hu q.1)))
            go_wp2_with fail
            go_ret
            exact ⟨by rw [hrf.out]; rfl, hbn.out _⟩
        · have hi0b : ((i : Int) == 0) = false := by simp; omega
          have hokz := hd (show aroundP (trees l) i → okN l i from fun h _ => by rw [if_neg hi0]; exact h)
          have hnok := hd (show ¬ aroundP (trees l) i → ¬ okN l i from fun h g => h (by have := g hlt; rw [if_neg hi0] at this; exact this))
          generalize l[i].num = xn at *
          generalize l[i].text = xt at *
          generalize l[i].many = xm at *
          generalize l[i].up = xu at *
          generalize l[i].no = xo at *
          by_cases hu0 : xu < 0
          · have hrf := hd (hbi.out (hnok.out (fun q => by obtain ⟨q, hq, _⟩ := q; rw [hUi.out] at hq; omega)))
            go_wp2_with fail
            go_ret
            exact ⟨by rw [hrf.out]; rfl, hbn.out _⟩
          · by_cases hui : (i : Int) ≤ xu
            · have hrf := hd (hbi.out (hnok.out (fun q => by
                obtain ⟨q, hq, hA, _⟩ := q
                rw [hUi.out] at hq
                have := hA.le (n := i - 1) (fun k hk => ok_up hok.out k (by omega)) (Nat.le_refl _)
                omega)))
              go_wp2_with fail
              go_ret
              exact ⟨by rw [hrf.out]; rfl, hbn.out _⟩
            · obtain ⟨q, rfl⟩ := Int.eq_ofNat_of_zero_le (show 0 ≤ xu by omega)
              have hqi : q < i := by omega
              have hql : q < l.length := by omega
              have hqI : (q : Int) < (l.length : Int) := by omega
              obtain ⟨g0, g1, g2, g3, g4⟩ := Cells.rowNode l q hql (hC.out.mono hbw.out)
              have g4a := fun o => keepCell (below_a1 wo (a := o)) g4
              have qa := fun o => keepCell (below_a1 wo (a := o)) qo
              have hqh := hd (show l[q].many = true ↔ ∃ h : q < (trees l).length, holdsB (trees l)[q].kind = true by
                constructor
                · intro hm; refine ⟨by rw [trees_len]; exact hql, ?_⟩; rw [trees_at hql]; simp [nT, hm, holdsB]
                · rintro ⟨h1, h2⟩; rw [trees_at hql] at h2
                  cases hm : l[q].many with
                  | true => rfl
                  | false => simp [nT, hm, holdsB] at h2)
              generalize l[q].many = qm at *
              clear g0 g1 g2 g3
              cases qm with
              | false =>
                have hrf := hd (hbi.out (hnok.out (fun p => by
                  obtain ⟨p, hp, _, hh⟩ := p
                  rw [hUi.out] at hp
                  have e : p = q := by omega
                  subst e
                  exact absurd (hqh.out.2 hh) (by simp))))
                go_wp2_with fail
                go_ret
                exact ⟨by rw [hrf.out]; rfl, hbn.out _⟩
              | true =>
                obtain ⟨arr, harr⟩ := boolOf (Anc (trees l) (i - 1) q)
                have harr := hd harr
                have hyes := hd (fun (e : arr = true) => hnext.out (hokz.out ⟨q, hUi.out, harr.out.1 e, hqh.out.1 rfl⟩))
                have hnot := hd (fun (e : arr = false) => hbi.out (hnok.out (fun p => by
                  obtain ⟨p, hp, hA, _⟩ := p
                  rw [hUi.out] at hp
                  have e2 : p = q := by omega
                  subst e2
                  rw [harr.out.2 hA] at e
                  exact absurd e (by simp))))
                have hups := hd (fun k (hk : k < i) => ok_up hok.out k hk)
                have hw1 : IntKind.i64.wrap ((i : Int) - 1) = ((i - 1 : Nat) : Int) := by rw [IntWalk.i64_in _ (by omega)]; omega
                have hCw := hd (hC.out.mono hbw.out)
                have hlnW := hd (hln.out (.cells #[.int .i64 xn, .string xt, .int .i64 xo, .int .i64 q, .bool xm] 113))
                have hbnW := hd (hbn.out (.cells #[.int .i64 xn, .string xt, .int .i64 xo, .int .i64 q, .bool xm] 113))
                have hXW := hd (hX.out 113)
                have qa2 := hd (qa (.cells #[.int .i64 xn, .string xt, .int .i64 xo, .int .i64 q, .bool xm] 113))
                clear g4 hqh hnext hbi hokz hnok hln hbn hX
                go_wp2_with fail
                go_loop [5, 6] (fun ar n => ∃ (b : Bool) (m : Int), ar = .bool b ∧ n = .int .i64 m ∧ m < i ∧ Hd (arr = true ↔ b = true ∨ ∃ j : Nat, m = (j : Int) ∧ Anc (trees l) j q)) (fun _ n => (intOf n + 1).toNat)
                case atStart =>
                  refine ⟨false, ((i - 1 : Nat) : Int), rfl, rfl, by omega, ?_⟩
                  show arr = true ↔ _
                  rw [harr.out]
                  constructor
                  · intro h; exact .inr ⟨i - 1, rfl, h⟩
                  · rintro (h | ⟨j, hj, h⟩)
                    · cases h
                    · have e : j = i - 1 := by omega
                      subst e; exact h
                case round =>
                  obtain ⟨b, m, rfl, rfl, hm, hrel⟩ := hrel
                  have x3 := hXW.out.1 3 _ rfl
                  by_cases h0 : 0 ≤ m
                  · obtain ⟨j, rfl⟩ := Int.eq_ofNat_of_zero_le h0
                    have hjl : j < l.length := by omega
                    have hjI : (j : Int) < (l.length : Int) := by omega
                    have hj0 : (0 : Int) ≤ (j : Int) := by omega
                    obtain ⟨g0, g1, g2, g3, g4⟩ := Cells.rowNode l j hjl (hCw.out.mono (below_a1 wo (a := .cells #[.int .i64 xn, .string xt, .int .i64 xo, .int .i64 q, .bool xm] 113)))
                    have hUj := hd (UN_at hjl)
                    have hlt2 := hups.out j (by omega)
                    rw [hUj.out] at hlt2
                    generalize l[j].up = uj at *
                    have qx := qa2.out
                    clear g0 g1 g2 g4
                    by_cases hbb : b = true
                    · have hA := hd (fun (_ : Unit) => hrel.out.2 (.inl hbb))
                      clear hrel
                      go_wp2_with fail
                      go_round
                      case rel => exact ⟨true, uj, by first | rfl | simp [hbb], rfl, by omega, ⟨fun _ => .inl rfl, fun _ => hA.out ()⟩⟩
                      case measure => simp [intOf]; omega
                    · replace hbb : b = false := by simpa using hbb
                      subst hbb
                      by_cases he : j = q
                      · subst he
                        have hA := hd (fun (_ : Unit) => hrel.out.2 (.inr ⟨j, rfl, .refl j⟩))
                        clear hrel
                        go_wp2_with fail
                        go_round
                        case rel => exact ⟨true, uj, rfl, rfl, by omega, ⟨fun _ => .inl rfl, fun _ => hA.out ()⟩⟩
                        case measure => simp [intOf]; omega
                      · have heb : ((j : Int) == (q : Int)) = false := by simp; omega
                        have hnx := hd (show arr = true ↔ false = true ∨ ∃ k : Nat, uj = (k : Int) ∧ Anc (trees l) k q by
                          rw [hrel.out]
                          constructor
                          · rintro (h | ⟨j', h1, h3⟩)
                            · cases h
                            · have e : j' = j := by omega
                              subst e
                              rcases h3.inv with h4 | ⟨p, h4, h5⟩
                              · exact absurd h4 he
                              · exact .inr ⟨p, by rw [← hUj.out]; exact h4, h5⟩
                          · rintro (h | ⟨k, h1, h3⟩)
                            · cases h
                            · exact .inr ⟨j, rfl, .up j k q (by rw [hUj.out]; exact h1) h3⟩)
                        go_wp2_with fail
                        go_round
                        case rel => exact ⟨false, uj, rfl, rfl, by omega, hnx⟩
                        case measure => simp [intOf]; omega
                  · have h0I : ¬ (0 : Int) ≤ m := h0
                    cases b with
                    | true =>
                      have hn2 := hd (hyes.out (hrel.out.2 (.inl rfl)))
                      clear x3
                      go_wp2_with fail
                      go_roundw
                      case rel => exact ⟨i + 1, by omega, by go_num, hn2, hlnW⟩
                      case measure => simp [intOf]; omega
                    | false =>
                      have hrf := hd (hnot.out (by
                        rw [← Bool.not_eq_true, hrel.out]
                        rintro (h | ⟨j, h1, _⟩)
                        · cases h
                        · omega))
                      clear x3
                      go_wp2_with fail
                      go_ret
                      exact ⟨by rw [hrf.out]; rfl, hbnW.out⟩
      · obtain rfl : i = l.length := by omega
        have hltI : ¬ (l.length : Int) < (l.length : Int) := by omega
        have hfin := hd (hfin.out hok.out)
        go_wp2_with fail
        refine (hfin.out _).mono ?_
        rintro e w' ⟨rfl, rfl⟩
        go_wp2_with fail
        go_ret
        exact ⟨rfl, hbw.out⟩
end Go.Proofs.Ytobahkjbadamhaa
