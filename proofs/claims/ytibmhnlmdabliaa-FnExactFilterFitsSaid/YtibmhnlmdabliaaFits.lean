/- FilterFits of the program: a filter's wants against a schema's parts. -/
import Derived.Test.YtibmhnlmdabliaaIsSub
import Derived.Test.YtibmhnlmdabliaaFilterS
namespace Go.Proofs.Ytibmhnlmdabliaa
open Go.RowKit
set_option linter.unusedVariables false
set_option maxRecDepth 100000
def foldK (t : K) : Bool := t.of == 1 || t.of == 3
def fitW (t : K) (w : DWant) : Bool := w.no == 0 || (match t.parts.find? (byNo w.no) with
  | none => false
  | some p => !(decide (w.kind ≤ 3) && !foldK p) && !((w.kind == 5) && !(p.of == 2)))
def ffP (lw : List DWant) (ls : List DType) (r : Bool × Bool) : Prop :=
  (∀ t, treeOf ls t → goodP ls → goodFilter lw = true → r = (lw.all (fitW t), true)) ∧ (¬ (goodP ls ∧ goodFilter lw = true) → r = (false, false))
theorem ffP_ex (lw : List DWant) (ls : List DType) : ∃ r, ffP lw ls r := by
  by_cases h : goodP ls ∧ goodFilter lw = true
  · obtain ⟨t, ht⟩ := good_tree h.1
    exact ⟨(lw.all (fitW t), true), fun t' h1 _ _ => by rw [treeOf_uniq h1 ht], fun g => absurd h g⟩
  · exact ⟨(false, false), fun _ _ h1 h2 => absurd ⟨h1, h2⟩ h, fun _ => rfl⟩
set_option maxHeartbeats 800000 in
theorem fieldKind_i (o : Int) (b : Nat) (w : World) (c0 : w.cell? ⟨b, 0, none⟩ = some (.int .i64 o)) :
    Calls Try.prog 111 #[.pointer (some ⟨b, 0, none⟩)] w (IntPost (if o = 1 ∨ o = 3 then 0 else 2) w) := by
  by_cases h1 : o = 1
  · subst h1
    go_enter Try.func111, Try.ntmps111
    go_wp2_with fail
    go_ret
    exact ⟨rfl, Below.refl _ _⟩
  · have h1b : (o == 1) = false := by simpa using h1
    by_cases h3 : o = 3
    · subst h3
      go_enter Try.func111, Try.ntmps111
      go_wp2_with fail
      go_ret
      exact ⟨rfl, Below.refl _ _⟩
    · have h3b : (o == 3) = false := by simpa using h3
      have hz : (if o = 1 ∨ o = 3 then (0 : Int) else 2) = 2 := if_neg (by omega)
      rw [hz]
      clear hz
      go_enter Try.func111, Try.ntmps111
      go_wp2_with fail
      go_ret
      exact ⟨rfl, Below.refl _ _⟩
theorem fit_none {t : K} {w : DWant} (h0 : w.no ≠ 0) (h : noneP t.parts w.no) : fitW t w = false := by
  rw [fitW, find_none h]; simp [h0]
theorem fit_some {t : K} {w : DWant} (h0 : w.no ≠ 0) {j : Nat} (h : firstP t.parts w.no j) : fitW t w = (!(decide (w.kind ≤ 3) && !foldK (t.parts[j]'h.1)) && !((w.kind == 5) && !((t.parts[j]'h.1).of == 2))) := by
  rw [fitW, find_first h]; simp [h0]
set_option maxHeartbeats 6400000 in
theorem FilterFits_i (l0 : List DWant) (l1 : List DType) (v0 v1 : Value) (w : World) (hl0 : l0.length ≤ 1000000000) (hl1 : l1.length ≤ 1000000000) (hs1 : ∀ x ∈ l1, x.name.size ≤ 1000000000000) (h0 : Sl w v0 6 (l0.map DWant.enc)) (h1 : Sl w v1 6 (l1.map DType.enc)) (r : Bool × Bool) (hr : ffP l0 l1 r) :
    Calls Try.prog 60 #[.agg #[v0], .agg #[v1]] w (BB2Post r w) := by
  obtain ⟨g1, hg1⟩ := boolOf (goodP l1)
  obtain ⟨g0, hg0⟩ : ∃ b, goodFilter l0 = b := ⟨_, rfl⟩
  have k0 := hd (fun w' (hbb : Below w.heap.size w w') => GoodFilter_i l0 v0 w' (by omega) (h0.mono hbb) g0 hg0)
  have k1 := hd (fun w' (hbb : Below w.heap.size w w') => kindOf_i l1 v1 w' (by omega) hs1 (h1.mono hbb) g1 hg1)
  obtain ⟨a0, c0, rfl, hrr⟩ := h0
  obtain ⟨a1, c1, rfl, -⟩ := h1
  replace hrr := hd hrr
  simp only [List.length_map] at k0 k1 ⊢
  replace hr := hd hr
  replace hg0 := hd hg0
  replace hg1 := hd hg1
  cases g1 with
  | false =>
    have hres := hd (hr.out.2 (fun q => absurd (hg1.out.2 q.1) (by simp)))
    go_enter Try.func60, Try.ntmps60
    go_wp2_with fail
    refine (k1.out _ (below_a2 w)).mono ?_
    intro e w2 hp
    obtain ⟨rfl, hb2⟩ := KoPost_f hp
    clear hp
    have hB := hd ((below_a2 w).next hb2)
    clear hb2
    go_wp2_with fail
    go_ret2
    exact ⟨by rw [hres.out]; rfl, hB.out⟩
  | true =>
    cases g0 with
    | false =>
      have hres := hd (hr.out.2 (fun q => absurd (hg0.out.symm.trans q.2) (by simp)))
      clear hg0
      go_enter Try.func60, Try.ntmps60
      go_wp2_with fail
      refine (k1.out _ (below_a2 w)).mono ?_
      intro e w2 hp
      obtain ⟨tA, vA, rfl, htA, hrA, hb2⟩ := KoPost_t hp
      clear hp
      obtain ⟨bA, _, _, _, rfl, -⟩ := hrA.open
      have q0 := keepCell hb2 (show World.cell? _ ⟨w.heap.size, 0, none⟩ = some (.slice a0 l0.length c0) by go_simp)
      have hB := hd ((below_a2 w).next hb2)
      clear hb2 hrA htA
      go_wp2_with fail
      refine (k0.out _ hB.out).mono ?_
      rintro e w3 ⟨rfl, hb3⟩
      have hB3 := hd (hB.out.next hb3)
      clear hb3
      go_wp2_with fail
      go_ret2
      exact ⟨by rw [hres.out]; rfl, hB3.out⟩
    | true =>
      have hz := hd (fun t ht => hr.out.1 t ht (hg1.out.1 rfl) hg0.out)
      have hgp := hd (hg1.out.1 rfl)
      clear hg0 hg1
      go_enter Try.func60, Try.ntmps60
      go_wp2_with fail
      refine (k1.out _ (below_a2 w)).mono ?_
      intro e w2 hp
      obtain ⟨tA, vA, rfl, htA, hrA, hb2⟩ := KoPost_t hp
      clear hp
      have hlp : tA.parts.length ≤ 1000000 := by
        have h1 := len_count tA.parts; have h2 := countK_eq tA; have e0 := enc_count tA _ _ htA.1; have n0 := good_len' hgp.out; omega
      replace hz := hd (hz.out tA htA)
      obtain ⟨bA, aA, cA, vsA, rfl, hbA, x0, x1, x2, x3, x4, x5, hSA, hlA, hgA⟩ := hrA.open
      replace hgA := hd hgA
      have hpart := hd (fun (no : Int) (w' : World) (hw : Below w2.heap.size w2 w') => part_i tA no bA cA aA vsA w' _ w2.heap.size hw.size hlp (keepCell hw x5) (hSA.same (Same.below hw (Nat.le_refl _)) (Nat.le_refl _) (Nat.le_refl _)) hlA (fun j h1 h2 => (hgA.out j h1 h2).below (Nat.le_refl _) hw))
      replace hSA := hd hSA
      have q0 := keepCell hb2 (show World.cell? _ ⟨w.heap.size, 0, none⟩ = some (.slice a0 l0.length c0) by go_simp)
      have hB := hd ((below_a2 w).next hb2)
      clear hb2 hrA htA x0 x1 x2 x3 x4 x5 hbA
      go_wp2_with fail
      refine (k0.out _ hB.out).mono ?_
      rintro e w3 ⟨rfl, hb3⟩
      have hB3 := hd (hB.out.next hb3)
      have hb23 := hd hb3
      have q0' := keepCell hb3 q0
      clear hb3 q0
      go_wp2_with fail
      go_loopw [22] (fun n wr => ∃ k : Nat, n = .int .i64 k ∧ k ≤ l0.length ∧ Hd (∀ i (h : i < l0.length), i < k → fitW tA l0[i] = true) ∧ Hd (Below w3.heap.size w3 wr)) (fun n _ => l0.length - (intOf n).toNat)
      case atStart => exact ⟨0, rfl, Nat.zero_le _, fun i h1 h2 => by omega, Below.refl _ _⟩
      case round =>
        obtain ⟨k, rfl, hk, hok, hbl⟩ := hrel
        obtain ⟨wo, rfl⟩ : ∃ wo : World, wo = wr := ⟨_, rfl⟩
        have hbw := hd (hB3.out.next hbl.out)
        have hb2w := hd (hb23.out.next hbl.out)
        by_cases hlt : k < l0.length
        · have hltI : (k : Int) < (l0.length : Int) := by omega
          obtain ⟨b1, o1, rfl, C1⟩ := rows_at hrr.out (k := k) (by rw [List.length_map]; exact hlt)
          obtain ⟨f0, f1, f2, f3, f4, f5⟩ := Cells.rowWant l0 k hlt (C1.mono hbw.out)
          have hnext := hd (fun (h : fitW tA l0[k] = true) => (show ∀ i (h : i < l0.length), i < k + 1 → fitW tA l0[i] = true from fun i h1 h2 => by
            by_cases e : i = k
            · subst e; exact h
            · exact hok.out i h1 (by omega)))
          have hstop := hd (fun (h : fitW tA l0[k] = false) => (show l0.all (fitW tA) = false from all_false hlt h))
          generalize l0[k] = x at *
          have hX := hd (show BoxN (wo.alloc (.cells #[.int .i64 x.kind, .int .i64 x.no, .int .i64 x.num, .string x.text, .int .i64 x.a, .int .i64 x.b] 91)) wo.heap.size x.enc from BoxN.new wo x.enc _)
          have hbl2 := hd (hbl.out.next (below_a1 wo (a := .cells #[.int .i64 x.kind, .int .i64 x.no, .int .i64 x.num, .string x.text, .int .i64 x.a, .int .i64 x.b] 91)))
          go_upto_region 7 with (fail)
          have p0 := hX.out.1 0 _ rfl
          have p1 := hX.out.1 1 _ rfl
          generalize wo.alloc (.cells #[.int .i64 x.kind, .int .i64 x.no, .int .i64 x.num, .string x.text, .int .i64 x.a, .int .i64 x.b] 91) = W4 at *
          have hw4 := hd (hb23.out.next hbl2.out)
          have hB4 := hd (hB3.out.next hbl2.out)
          clear f0 f1 f2 f3 f4 f5 hX
          by_cases hno : x.no = 0
          · have hn2 := hd (hnext.out (by simp [fitW, hno]))
            rw [hno] at p1
            go_wp2_with fail
            go_roundw
            case rel => exact ⟨k + 1, by go_num, by omega, hn2, hbl2⟩
            case measure => simp [intOf]; omega
          · have hnob : (x.no == 0) = false := by simpa using hno
            rcases first_or tA.parts x.no with ⟨j, hj⟩ | hnn
            · have hjl := hj.1
              have hjv : j < vsA.length := by omega
              have hfit := hd (fit_some hno hj)
              have hgj := hd (hgA.out j hjl hjv)
              replace hj := hd hj
              go_wp2_with fail
              refine (hpart.out x.no _ hw4.out).mono ?_
              intro e w5 hp
              obtain ⟨hp1, -, hb5⟩ := hp
              obtain ⟨hjv', rfl⟩ := hp1 j hj.out
              clear hp1
              have hw5 := hd (hw4.out.next hb5)
              have hbl5 := hd (hbl2.out.next hb5)
              have hB5 := hd (hB4.out.next hb5)
              have p0' := keepCell hb5 p0
              have hgj5 := hgj.out.below (Nat.le_refl _) hw5.out
              obtain ⟨bp, _, _, _, hev, -, y0, -⟩ := hgj5.open
              rw [hev]
              clear hgj5 hgj hb5 p0 p1 hev
              generalize (tA.parts[j]'hjl) = pj at *
              have cf := hd (fun w' (hw' : Below w5.heap.size w5 w') => fieldKind_i pj.of bp w' (keepCell hw' y0))
              by_cases hkd : x.kind ≤ 3
              · have hk5 : (x.kind == 5) = false := by simp; omega
                by_cases hfo : pj.of = 1 ∨ pj.of = 3
                · have hn2 := hd (hnext.out (by rw [hfit.out]; rcases hfo with h | h <;> simp [foldK, h, hk5]))
                  rw [if_pos hfo] at cf
                  clear hfo hfit hstop hnext
                  go_wp2_with fail
                  refine (cf.out _ (Below.refl _ _)).mono ?_
                  rintro e w6 ⟨rfl, hb6⟩
                  have hbl6 := hd (hbl5.out.next hb6)
                  have p6 := keepCell hb6 p0'
                  clear hb6
                  go_wp2_with fail
                  go_roundw
                  case rel => exact ⟨k + 1, by go_num, by omega, hn2, hbl6⟩
                  case measure => simp [intOf]; omega
                · have hn2 := hd (hstop.out (by rw [hfit.out]; simp [foldK, hkd]; intro h; omega))
                  rw [if_neg hfo] at cf
                  clear hfo hfit hstop hnext
                  go_wp2_with fail
                  refine (cf.out _ (Below.refl _ _)).mono ?_
                  rintro e w6 ⟨rfl, hb6⟩
                  have hB6 := hd (hB5.out.next hb6)
                  clear hb6
                  go_wp2_with fail
                  go_ret2
                  exact ⟨by rw [hz.out, hn2.out]; rfl, hB6.out⟩
              · by_cases hk5 : x.kind = 5
                · have hk5b : (x.kind == 5) = true := by simpa using hk5
                  by_cases ho2 : pj.of = 2
                  · have hn2 := hd (hnext.out (by rw [hfit.out]; simp [hkd, ho2]))
                    rw [ho2] at y0
                    clear ho2 hfit hstop hnext
                    go_wp2_with fail
                    go_roundw
                    case rel => exact ⟨k + 1, by go_num, by omega, hn2, hbl5⟩
                    case measure => simp [intOf]; omega
                  · have ho2b : (pj.of != 2) = true := by simpa using ho2
                    have ho2c : (pj.of == 2) = false := by simpa using ho2
                    have hn2 := hd (hstop.out (by rw [hfit.out]; simp [hk5, ho2]))
                    clear ho2 hfit hstop hnext
                    go_wp2_with fail
                    go_ret2
                    exact ⟨by rw [hz.out, hn2.out]; rfl, hB5.out⟩
                · have hk5b : (x.kind == 5) = false := by simpa using hk5
                  have hn2 := hd (hnext.out (by rw [hfit.out]; simp [hkd, hk5]))
                  clear hfit hstop hnext
                  go_wp2_with fail
                  go_roundw
                  case rel => exact ⟨k + 1, by go_num, by omega, hn2, hbl5⟩
                  case measure => simp [intOf]; omega
            · have hn2 := hd (hstop.out (fit_none hno hnn))
              replace hnn := hd hnn
              go_wp2_with fail
              refine (hpart.out x.no _ hw4.out).mono ?_
              intro e w5 hp
              obtain ⟨-, hp1, hb5⟩ := hp
              obtain rfl := hp1 hnn.out
              clear hp1
              have hB5 := hd (hB4.out.next hb5)
              have p0' := keepCell hb5 p0
              clear hb5 p0 p1
              go_wp2_with fail
              go_ret2
              exact ⟨by rw [hz.out, hn2.out]; rfl, hB5.out⟩
        · obtain rfl : k = l0.length := by omega
          have hltI : ¬ (l0.length : Int) < (l0.length : Int) := by omega
          have hn2 := hd (show l0.all (fitW tA) = true from all_true (fun i hi => hok.out i hi hi))
          go_wp2_with fail
          go_ret2
          exact ⟨by rw [hz.out, hn2.out]; rfl, hbw.out⟩
end Go.Proofs.Ytibmhnlmdabliaa
