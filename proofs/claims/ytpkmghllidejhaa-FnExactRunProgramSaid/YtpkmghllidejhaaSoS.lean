/- l7Is of the reference. -/
import Derived.Test.YtpkmghllidejhaaSo
namespace Go.Proofs.Ytpkmghllidejhaa
open Go.RowKit
set_option linter.unusedVariables false
set_option maxRecDepth 100000
def Strict (fs : List DField) : Prop := ∀ i j (hi : i < fs.length) (hj : j < fs.length), i < j → fs[i].no < fs[j].no
theorem strict_of {fs : List DField} (h : risNB (nosF fs) = true) : Strict fs := by
  have hs : ∀ j (hj : j + 1 < fs.length), fs[j].no < fs[j + 1].no := by
    intro j hj
    have hl : j + 1 < (nosF fs).length := by rw [nosF, List.length_map]; exact hj
    by_cases hb : nBad (nosF fs) (j + 1) = true
    · rw [risN_false hl hb] at h; cases h
    · rw [nBad_succ hl] at hb
      simp only [nosF, List.getElem_map, decide_eq_true_eq] at hb
      omega
  have key : ∀ d i (hi : i + d + 1 < fs.length), fs[i].no < fs[i + d + 1].no := by
    intro d
    induction d with
    | zero => intro i hi; exact hs i hi
    | succ d ih =>
      intro i hi
      have h1 := ih i (by omega)
      have h2 := hs (i + d + 1) hi
      have e : fs[i + (d + 1) + 1] = fs[i + d + 1 + 1] := rfl
      rw [e]; omega
  intro i j hi hj hij
  obtain ⟨d, rfl⟩ : ∃ d, j = i + d + 1 := ⟨j - i - 1, by omega⟩
  exact key d i hj
theorem any_at {fs : List DField} (h : Strict fs) {x : DWant} {k : Nat} (hk : k < fs.length) (hn : fs[k].no = x.no) : fs.any (wIs x) = isB fs[k] x.kind x.num x.text := by
  cases hb : isB fs[k] x.kind x.num x.text with
  | true => exact List.any_eq_true.2 ⟨fs[k], List.getElem_mem hk, by rw [wIs, hb, hn]; simp⟩
  | false =>
    rw [List.any_eq_false]
    intro y hy
    obtain ⟨i, hi, rfl⟩ := List.mem_iff_getElem.1 hy
    by_cases e : i = k
    · subst e; rw [wIs, hb]; simp
    · have : ¬ fs[i].no = x.no := by
        rcases Nat.lt_or_gt_of_ne e with h1 | h1
        · have := h i k hi hk h1; omega
        · have := h k i hk hi h1; omega
      simp [wIs, this]
theorem any_end {fs : List DField} {x : DWant} {k : Nat} (hk : fs.length ≤ k) (h : ∀ i (hi : i < fs.length), i < k → ¬ fs[i].no = x.no) : fs.any (wIs x) = false := by
  rw [List.any_eq_false]
  intro y hy
  obtain ⟨i, hi, rfl⟩ := List.mem_iff_getElem.1 hy
  simp [wIs, h i hi (by omega)]
def NoneTo (fs : List DField) (n : Int) (k : Nat) : Prop := ∀ i (hi : i < fs.length), i < k → ¬ fs[i].no = n
set_option maxHeartbeats 6400000 in
theorem is_s (l : List DWant) (fs : List DField) (a : Option Addr) (c : Nat) (u : Value) (hst : Strict fs) (hok : okAll l) (hl : l.length ≤ 20) (hpl : fs.length ≤ 40) (hs : ∀ p ∈ fs, p.data.size ≤ 1000000000000) (ht : ∀ x ∈ l, x.text.size ≤ 1000000000000) :
    ∀ (n k : Nat) (w : World), k < n → k < l.length → Sl w (.slice a l.length c) 6 (l.map DWant.enc) → Sl w u 4 (fs.map DField.enc) →
      Calls Try.prog 161 #[.agg #[.slice a l.length c], .int .i64 k, u] w (BoolPost (soB l fs n k) w) := by
  have hok := hd hok
  have hs := hd hs
  have ht := hd ht
  have hst := hd hst
  intro n
  induction n with
  | zero => intro k w h; omega
  | succ n ih =>
    intro k w hkn hk hW hP
    have ih := hd ih
    have hW' := hd hW
    have hP' := hd hP
    have hkI : (k : Int) < (l.length : Int) := by omega
    have hwp := hd (hok.out k hk)
    have htx := ht.out l[k] (List.getElem_mem hk)
    have hrec := soB_at (fs := fs) (n := n) hk
    obtain ⟨a1, k1, hav, hrr⟩ := hW
    rw [List.length_map] at hav
    cases hav
    obtain ⟨b1, o1, rfl, C1⟩ := rows_at hrr (k := k) (by rw [List.length_map]; exact hk)
    obtain ⟨f0, f1, f2, f3, f4, f5⟩ := Cells.rowWant l k hk (C1.mono (below_a1 w (a := .cells #[.slice (some ⟨b1, o1, none⟩) l.length c] 50)))
    generalize l[k] = x at *
    generalize soB l fs (n + 1) k = z at *
    have hq := hd (show (w.alloc (.cells #[.slice (some ⟨b1, o1, none⟩) l.length c] 50)).cell? ⟨w.heap.size, 0, none⟩ = some (.slice (some ⟨b1, o1, none⟩) l.length c) by go_simp)
    have hb1 := hd (below_a1 w (a := .cells #[.slice (some ⟨b1, o1, none⟩) l.length c] 50))
    have hz1 : (w.alloc (.cells #[.slice (some ⟨b1, o1, none⟩) l.length c] 50)).heap.size = w.heap.size + 1 := by simp
    have hcs : x.kind = 6 ∨ x.kind = 7 ∨ x.kind = 8 ∨ (¬ x.kind = 6 ∧ ¬ x.kind = 7 ∧ ¬ x.kind = 8) := by omega
    replace hrec := hd hrec
    have hz1 := hd hz1
    go_enter Try.func161, Try.ntmps161
    go_upto_region 1 with (fail)
    generalize w.alloc (.cells #[.slice (some ⟨b1, o1, none⟩) l.length c] 50) = w1 at *
    have hx4 := hd (show BoxN (w1.alloc (.cells #[.int .i64 x.kind, .int .i64 x.no, .int .i64 x.num, .string x.text, .int .i64 x.a, .int .i64 x.b] 148)) (w.heap.size + 1) x.enc from by rw [← hz1.out]; exact BoxN.new w1 x.enc _)
    have hb4 := hd (hb1.out.next (below_a1 w1 (a := .cells #[.int .i64 x.kind, .int .i64 x.no, .int .i64 x.num, .string x.text, .int .i64 x.a, .int .i64 x.b] 148)))
    have hqW := hd (keepCell (below_a1 w1 (a := .cells #[.int .i64 x.kind, .int .i64 x.no, .int .i64 x.num, .string x.text, .int .i64 x.a, .int .i64 x.b] 148)) hq.out)
    have q0 := hq.out
    go_upto_region 2 with (fail)
    have p0 := hx4.out.1 0 _ rfl; have p1 := hx4.out.1 1 _ rfl; have p2 := hx4.out.1 2 _ rfl; have p3 := hx4.out.1 3 _ rfl; have p4 := hx4.out.1 4 _ rfl; have p5 := hx4.out.1 5 _ rfl
    generalize w1.alloc (.cells #[.int .i64 x.kind, .int .i64 x.no, .int .i64 x.num, .string x.text, .int .i64 x.a, .int .i64 x.b] 148) = W at *
    clear f0 f1 f2 f3 f4 f5 hP q0 hq
    have qW := hqW.out
    rcases hcs with h6 | h7 | h8 | ⟨h6, h7, h8⟩
    · obtain ⟨ha0, hab, hbk⟩ : 0 ≤ x.a ∧ x.a < x.b ∧ x.b < (k : Int) := by rcases hwp.out with h | h | h <;> omega
      obtain ⟨ma, hma⟩ := Int.eq_ofNat_of_zero_le ha0
      obtain ⟨mb, hmb⟩ := Int.eq_ofNat_of_zero_le (show 0 ≤ x.b by omega)
      have g6 : (x.kind == 6) = true := by simpa using h6
      have hz := hd (show z = (soB l fs n ma && soB l fs n mb) by rw [hrec.out, if_pos h6, hma, hmb]; rfl)
      rw [hma] at p4
      rw [hmb] at p5
      have ca := hd (ih.out ma W (by omega) (by omega) (hW'.out.mono hb4.out) (hP'.out.mono hb4.out))
      have cb := hd (fun w2 (hb : Below W.heap.size W w2) => ih.out mb w2 (by omega) (by omega) (hW'.out.mono (hb4.out.next hb)) (hP'.out.mono (hb4.out.next hb)))
      generalize soB l fs n ma = ra at *
      generalize soB l fs n mb = rb at *
      clear h6 hwp hma hmb
      cases ra with
      | false =>
        go_wp2_with fail
        refine ca.out.mono ?_
        rintro e w3 ⟨rfl, hb3⟩
        have hB3 := hd (hb4.out.next hb3)
        clear hb3
        go_wp2_with fail
        go_ret
        exact ⟨by rw [hz.out]; rfl, hB3.out⟩
      | true =>
        go_wp2_with fail
        refine ca.out.mono ?_
        rintro e w3 ⟨rfl, hb3⟩
        have hB3 := hd (hb4.out.next hb3)
        have cb2 := hd (cb.out w3 hb3)
        have p5' := keepCell hb3 p5
        have qW' := keepCell hb3 qW
        clear hb3
        go_wp2_with fail
        refine cb2.out.mono ?_
        rintro e w5 ⟨rfl, hb5⟩
        have hB5 := hd (hB3.out.next hb5)
        clear hb5
        go_wp2_with fail
        go_ret
        exact ⟨by rw [hz.out]; rfl, hB5.out⟩
    · obtain ⟨ha0, hab, hbk⟩ : 0 ≤ x.a ∧ x.a < x.b ∧ x.b < (k : Int) := by rcases hwp.out with h | h | h <;> omega
      obtain ⟨ma, hma⟩ := Int.eq_ofNat_of_zero_le ha0
      obtain ⟨mb, hmb⟩ := Int.eq_ofNat_of_zero_le (show 0 ≤ x.b by omega)
      have g6 : (x.kind == 6) = false := by simp; omega
      have g7 : (x.kind == 7) = true := by simpa using h7
      have hz := hd (show z = (soB l fs n ma || soB l fs n mb) by rw [hrec.out, if_neg (by omega), if_pos h7, hma, hmb]; rfl)
      rw [hma] at p4
      rw [hmb] at p5
      have ca := hd (ih.out ma W (by omega) (by omega) (hW'.out.mono hb4.out) (hP'.out.mono hb4.out))
      have cb := hd (fun w2 (hb : Below W.heap.size W w2) => ih.out mb w2 (by omega) (by omega) (hW'.out.mono (hb4.out.next hb)) (hP'.out.mono (hb4.out.next hb)))
      generalize soB l fs n ma = ra at *
      generalize soB l fs n mb = rb at *
      clear h7 hwp hma hmb
      cases ra with
      | true =>
        go_wp2_with fail
        refine ca.out.mono ?_
        rintro e w3 ⟨rfl, hb3⟩
        have hB3 := hd (hb4.out.next hb3)
        clear hb3
        go_wp2_with fail
        go_ret
        exact ⟨by rw [hz.out]; rfl, hB3.out⟩
      | false =>
        go_wp2_with fail
        refine ca.out.mono ?_
        rintro e w3 ⟨rfl, hb3⟩
        have hB3 := hd (hb4.out.next hb3)
        have cb2 := hd (cb.out w3 hb3)
        have p5' := keepCell hb3 p5
        have qW' := keepCell hb3 qW
        clear hb3
        go_wp2_with fail
        refine cb2.out.mono ?_
        rintro e w5 ⟨rfl, hb5⟩
        have hB5 := hd (hB3.out.next hb5)
        clear hb5
        go_wp2_with fail
        go_ret
        exact ⟨by rw [hz.out]; rfl, hB5.out⟩
    · obtain ⟨ha0, hab⟩ : 0 ≤ x.a ∧ x.a < (k : Int) := by rcases hwp.out with h | h | h <;> omega
      obtain ⟨ma, hma⟩ := Int.eq_ofNat_of_zero_le ha0
      have g6 : (x.kind == 6) = false := by simp; omega
      have g7 : (x.kind == 7) = false := by simp; omega
      have g8 : (x.kind == 8) = true := by simpa using h8
      have hz := hd (show z = !soB l fs n ma by rw [hrec.out, if_neg (by omega), if_neg (by omega), if_pos h8, hma]; rfl)
      rw [hma] at p4
      have ca := hd (ih.out ma W (by omega) (by omega) (hW'.out.mono hb4.out) (hP'.out.mono hb4.out))
      generalize soB l fs n ma = ra at *
      clear h8 hwp hma
      go_wp2_with fail
      refine ca.out.mono ?_
      rintro e w3 ⟨rfl, hb3⟩
      have hB3 := hd (hb4.out.next hb3)
      clear hb3
      go_wp2_with fail
      go_ret
      exact ⟨by rw [hz.out]; rfl, hB3.out⟩
    · have g6 : (x.kind == 6) = false := by simpa using h6
      have g7 : (x.kind == 7) = false := by simpa using h7
      have g8 : (x.kind == 8) = false := by simpa using h8
      have hz := hd (show z = fs.any (wIs x) by rw [hrec.out, if_neg h6, if_neg h7, if_neg h8])
      clear h6 h7 h8 hwp hrec
      obtain ⟨a2, k2, rfl, hr2⟩ := hP'.out
      replace hr2 := hd hr2
      replace hP' := hd hP'
      simp only [List.length_map] at *
      go_wp2_with fail
      go_loopw [56] (fun i wr => ∃ j : Nat, j ≤ fs.length ∧ i = .int .i64 j ∧ Hd (NoneTo fs x.no j) ∧ Hd (Below W.heap.size W wr)) (fun i _ => fs.length - (intOf i).toNat)
      case atStart => exact ⟨0, Nat.zero_le _, rfl, fun i hi h => absurd h (by omega), Below.refl _ _⟩
      case round =>
        obtain ⟨j, hj, rfl, hno, hbl⟩ := hrel
        obtain ⟨wo, rfl⟩ : ∃ wo : World, wo = wr := ⟨_, rfl⟩
        by_cases hlt : j < fs.length
        · have hltI : (j : Int) < (fs.length : Int) := by omega
          obtain ⟨b3, o3, rfl, C3⟩ := rows_at hr2.out (k := j) (by rw [List.length_map]; exact hlt)
          obtain ⟨e0, e1, e2, e3⟩ := Cells.rowField fs j hlt (C3.mono (hb4.out.next hbl.out))
          have hds := hs.out fs[j] (List.getElem_mem hlt)
          have hat := hd (fun h => any_at hst.out (x := x) hlt h)
          have hnx := hd (show ¬ fs[j].no = x.no → NoneTo fs x.no (j + 1) from fun h0 i hi hij => by
            by_cases e : i = j
            · subst e; exact h0
            · exact hno.out i hi (by omega))
          generalize fs[j] = y at *
          have hy4 := hd (show BoxN (wo.alloc (.cells #[.int .i64 y.no, .int .i64 y.kind, .int .i64 y.num, .string y.data] 99)) wo.heap.size y.enc from BoxN.new wo y.enc _)
          have hbw := hd (hbl.out.next (below_a1 wo (a := .cells #[.int .i64 y.no, .int .i64 y.kind, .int .i64 y.num, .string y.data] 99)))
          go_upto_region 12 with (fail)
          have y0 := hy4.out.1 0 _ rfl; have y1 := hy4.out.1 1 _ rfl; have y2 := hy4.out.1 2 _ rfl; have y3 := hy4.out.1 3 _ rfl
          generalize wo.alloc (.cells #[.int .i64 y.no, .int .i64 y.kind, .int .i64 y.num, .string y.data] 99) = w5 at *
          have P0 := keepCell hbw.out p0
          have P1 := keepCell hbw.out p1
          have P2 := keepCell hbw.out p2
          have P3 := keepCell hbw.out p3
          have hBB := hd (hb4.out.next hbw.out)
          clear e0 e1 e2 e3 hy4 p0 p1 p2 p3
          by_cases hn : y.no = x.no
          · have hnb : (y.no == x.no) = true := by simpa using hn
            have hres := hd (show z = isB y x.kind x.num x.text by rw [hz.out]; exact hat.out hn)
            have hI := hd (show isB y x.kind x.num x.text = (if x.kind = 1 then y.kind == 0 && y.num == x.num else if x.kind = 2 then y.kind == 0 && decide (y.num < x.num) else if x.kind = 3 then y.kind == 0 && decide (x.num < y.num) else if x.kind = 5 then !(y.kind == 0) && preB y.data x.text else true) from rfl)
            clear hn
            have hcs : x.kind = 1 ∨ x.kind = 2 ∨ x.kind = 3 ∨ x.kind = 5 ∨ (¬ x.kind = 1 ∧ ¬ x.kind = 2 ∧ ¬ x.kind = 3 ∧ ¬ x.kind = 5) := by omega
            rcases hcs with h | h | h | h | ⟨h1, h2, h3, h5⟩
            · rw [h] at P0
              rw [h] at hI
              cases hk0 : (y.kind == 0) with
              | true =>
                rw [hk0] at hI
                go_wp2_with fail
                go_ret
                exact ⟨ret_bool (by rw [hres.out, h, hI.out]; simp), hBB.out⟩
              | false =>
                rw [hk0] at hI
                go_wp2_with fail
                go_ret
                exact ⟨ret_bool (by rw [hres.out, h, hI.out]; simp), hBB.out⟩
            · rw [h] at P0
              rw [h] at hI
              cases hk0 : (y.kind == 0) with
              | true =>
                rw [hk0] at hI
                go_wp2_with fail
                go_ret
                exact ⟨ret_bool (by rw [hres.out, h, hI.out]; simp), hBB.out⟩
              | false =>
                rw [hk0] at hI
                go_wp2_with fail
                go_ret
                exact ⟨ret_bool (by rw [hres.out, h, hI.out]; simp), hBB.out⟩
            · rw [h] at P0
              rw [h] at hI
              cases hk0 : (y.kind == 0) with
              | true =>
                rw [hk0] at hI
                go_wp2_with fail
                go_ret
                exact ⟨ret_bool (by rw [hres.out, h, hI.out]; simp), hBB.out⟩
              | false =>
                rw [hk0] at hI
                go_wp2_with fail
                go_ret
                exact ⟨ret_bool (by rw [hres.out, h, hI.out]; simp), hBB.out⟩
            · rw [h] at P0
              rw [h] at hI
              have hIr := hd (show isB y x.kind x.num x.text = (!(y.kind == 0) && preB y.data x.text) by rw [h, hI]; simp)
              clear hI
              cases hk0 : (y.kind == 0) with
              | true =>
                rw [hk0] at hIr
                go_wp2_with fail
                go_quiet (fail)
                go_wp2_with fail
                go_ret
                exact ⟨ret_bool (by rw [hres.out, hIr.out]; simp), below_drewN hBB.out _⟩
              | false =>
                rw [hk0] at hIr
                by_cases hsz : x.text.size ≤ y.data.size
                · have hszI : (x.text.size : Int) ≤ (y.data.size : Int) := by omega
                  have hpr := hd (show preB y.data x.text = ((y.data.extract 0 x.text.size).toList == x.text.toList) by rw [preB]; simp [hsz])
                  go_wp2_with fail
                  go_quiet (fail)
                  go_wp2_with fail
                  go_ret
                  exact ⟨ret_bool (by rw [hres.out, hIr.out, hpr.out]; simp), below_drewN hBB.out _⟩
                · have hszI : ¬ (x.text.size : Int) ≤ (y.data.size : Int) := by omega
                  have hpr := hd (show preB y.data x.text = false by rw [preB]; simp [hsz])
                  go_wp2_with fail
                  go_quiet (fail)
                  go_wp2_with fail
                  go_ret
                  exact ⟨ret_bool (by rw [hres.out, hIr.out, hpr.out]; simp), below_drewN hBB.out _⟩
            · have e1 : (x.kind == 1) = false := by simpa using h1
              have e2 : (x.kind == 2) = false := by simpa using h2
              have e3 : (x.kind == 3) = false := by simpa using h3
              have e5 : (x.kind == 5) = false := by simpa using h5
              have hIr := hd (show isB y x.kind x.num x.text = true by rw [hI.out, if_neg h1, if_neg h2, if_neg h3, if_neg h5])
              clear hI h1 h2 h3 h5
              go_wp2_with fail
              go_ret
              exact ⟨ret_bool (by rw [hres.out, hIr.out]), hBB.out⟩
          · have hnb : (y.no == x.no) = false := by simpa using hn
            have hnx2 := hd (hnx.out hn)
            clear hn
            go_wp2_with fail
            go_roundw
            case rel => exact ⟨j + 1, by omega, by go_num, hnx2, hbw⟩
            case measure => simp [intOf]; omega
        · have hltI : ¬ (j : Int) < (fs.length : Int) := by omega
          have hres := hd (show z = false by rw [hz.out]; exact any_end (by omega) hno.out)
          go_wp2_with fail
          go_ret
          exact ⟨by rw [hres.out]; rfl, hb4.out.next hbl.out⟩
end Go.Proofs.Ytpkmghllidejhaa
