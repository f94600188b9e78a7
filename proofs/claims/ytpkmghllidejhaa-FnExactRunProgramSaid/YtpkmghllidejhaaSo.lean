/- Whether a want is so of fields: so of the program. -/
import Derived.Test.YtpkmghllidejhaaIs
import Derived.Test.YtpkmghllidejhaaFilterS
namespace Go.Proofs.Ytpkmghllidejhaa
open Go.RowKit
set_option linter.unusedVariables false
set_option maxRecDepth 100000
def okAll (l : List DWant) : Prop := ∀ i (h : i < l.length), wantP l[i].kind l[i].no l[i].num l[i].text l[i].a l[i].b (i : Int)
theorem good_all {l : List DWant} (h : goodFilter l = true) : okAll l := by
  intro i hi
  simp only [goodFilter, Bool.and_eq_true, Bool.not_eq_true'] at h
  have := h.1.2
  rw [List.any_eq_false] at this
  have h2 := this (l[i], i) (by rw [← zi_get hi (by simpa using hi)]; exact List.getElem_mem _)
  simpa [wantBad] using h2
theorem good_len {l : List DWant} (h : goodFilter l = true) : 1 ≤ l.length ∧ l.length ≤ 20 := by
  simp only [goodFilter, Bool.and_eq_true, decide_eq_true_eq] at h
  exact h.1.1
def wIs (x : DWant) (f : DField) : Bool := f.no == x.no && isB f x.kind x.num x.text
def soB (l : List DWant) (fs : List DField) : Nat → Nat → Bool
  | 0, _ => false
  | n + 1, k => match l[k]? with
    | none => false
    | some x => if x.kind = 6 then soB l fs n x.a.toNat && soB l fs n x.b.toNat else if x.kind = 7 then soB l fs n x.a.toNat || soB l fs n x.b.toNat else if x.kind = 8 then !soB l fs n x.a.toNat else fs.any (wIs x)
theorem soB_at {l : List DWant} {fs : List DField} {n k : Nat} (h : k < l.length) : soB l fs (n + 1) k = if l[k].kind = 6 then soB l fs n l[k].a.toNat && soB l fs n l[k].b.toNat else if l[k].kind = 7 then soB l fs n l[k].a.toNat || soB l fs n l[k].b.toNat else if l[k].kind = 8 then !soB l fs n l[k].a.toNat else fs.any (wIs l[k]) := by
  rw [soB, List.getElem?_eq_getElem h]
def wIsP (x : DWant) (p : DPlaced) : Bool := wIs x p.f
set_option maxHeartbeats 800000 in
theorem so_cl (x : DWant) (p : DPlaced) (bk : Nat) (w : World) (hs : p.f.data.size ≤ 1000000000000) (ht : x.text.size ≤ 1000000000000)
    (q0 : w.cell? ⟨bk, 0, none⟩ = some (.int .i64 x.kind)) (q1 : w.cell? ⟨bk, 1, none⟩ = some (.int .i64 x.no)) (q2 : w.cell? ⟨bk, 2, none⟩ = some (.int .i64 x.num)) (q3 : w.cell? ⟨bk, 3, none⟩ = some (.string x.text)) :
    Calls Try.prog 163 #[.agg #[.int .i64 p.f.no, .int .i64 p.f.kind, .int .i64 p.f.num, .string p.f.data, .int .i64 p.at_], .pointer (some ⟨bk, 0, none⟩)] w (BoolPost (wIsP x p) w) := by
  have c1 := hd (fun w => fieldIs_i p.f x.kind x.num x.text w hs ht)
  have hI := hd (show wIsP x p = (p.f.no == x.no && isB p.f x.kind x.num x.text) from rfl)
  generalize isB p.f x.kind x.num x.text = r at *
  generalize wIsP x p = z at *
  have a0 := fun o => keepCell (below_a1 w (a := o)) q0
  have a1 := fun o => keepCell (below_a1 w (a := o)) q1
  have a2 := fun o => keepCell (below_a1 w (a := o)) q2
  have a3 := fun o => keepCell (below_a1 w (a := o)) q3
  clear q0 q1 q2 q3
  cases hn : (p.f.no == x.no) with
  | false =>
    go_enter Try.func163, Try.ntmps163
    go_wp2_with fail
    go_ret
    exact ⟨by rw [hI.out, hn]; rfl, below_a1 _⟩
  | true =>
    go_enter Try.func163, Try.ntmps163
    go_wp2_with fail
    refine (c1.out _).mono ?_
    rintro e w2 ⟨rfl, hb2⟩
    have hB := hd ((below_a1 w).next hb2)
    clear hb2
    go_wp2_with fail
    go_ret
    exact ⟨by rw [hI.out, hn]; rfl, hB.out⟩
set_option maxHeartbeats 800000 in
theorem ix_so (cv : Value) (p : DPlaced → Bool) (l : List DPlaced) (v : Value) (w : World) (hl : l.length ≤ 1000000000000) (h : Sl w v 5 (l.map DPlaced.enc))
    (hp : ∀ x ∈ l, ∀ w', Below w.heap.size w w' → Calls Try.prog 163 #[.agg #[.int .i64 x.f.no, .int .i64 x.f.kind, .int .i64 x.f.num, .string x.f.data, .int .i64 x.at_], cv] w' (BoolPost (p x) w')) :
    Calls Try.prog 105 #[v, .func (.func 163) #[] #[cv]] w (IntPost (fidx p l) w) := by
  replace hp := hd hp
  rcases h.open with ⟨a1, c1, rfl, hr⟩ | ⟨b1, o1, c1, rfl, hr, C1⟩
  · obtain rfl : l = [] := by simpa using hr
    go_enter Try.func105, Try.ntmps105
    go_wp2
    go_loopw [8] (fun i wr => i = .int .i64 0 ∧ wr = w) (fun _ _ => 0)
    case atStart => exact ⟨rfl, rfl⟩
    case round =>
      obtain ⟨rfl, rfl⟩ := hrel
      go_wp2_with fail
      go_ret
      exact ⟨rfl, Below.refl _ _⟩
  · clear h
    simp only [List.length_map]
    go_enter Try.func105, Try.ntmps105
    go_wp2
    go_loopw [8] (fun i wr => ∃ k : Nat, k ≤ l.length ∧ i = .int .i64 k ∧ Hd (fidx_from p l k) ∧ Hd (Below w.heap.size w wr)) (fun i _ => l.length - (intOf i).toNat)
    case atStart => exact ⟨0, Nat.zero_le _, rfl, fidx_zero p l, Below.refl _ _⟩
    case round =>
      obtain ⟨k, hk, rfl, hfx, hbl⟩ := hrel
      by_cases hlt : k < l.length
      · obtain ⟨f0, f1, f2, f3, f4⟩ := Cells.rowPlaced l k hlt (C1.mono hbl.out)
        cases hpx : p l[k] with
        | true =>
          replace hpx := hd hpx
          go_wp2_with fail
          refine (hp.out l[k] (List.getElem_mem hlt) _ hbl.out).mono ?_
          rw [hpx.out]
          rintro e w2 ⟨rfl, hb⟩
          have hb2 := hd (hbl.out.next hb)
          clear hb
          go_wp2_with fail
          go_ret
          exact ⟨ret_int (fidx_hit hlt hfx.out hpx.out).symm, hb2.out⟩
        | false =>
          replace hpx := hd hpx
          go_wp2_with fail
          refine (hp.out l[k] (List.getElem_mem hlt) _ hbl.out).mono ?_
          rw [hpx.out]
          rintro e w2 ⟨rfl, hb⟩
          have hb2 := hd (hbl.out.next hb)
          clear hb
          go_wp2_with fail
          go_roundw
          case rel => exact ⟨k + 1, by omega, by go_num, fidx_step hlt hfx.out hpx.out, hb2⟩
          case measure => simp [intOf]; omega
      · go_wp2_with fail
        go_ret
        exact ⟨ret_int (fidx_none (by omega) hfx.out).symm, hbl.out⟩
set_option maxHeartbeats 400000 in
theorem cf_so (cv : Value) (p : DPlaced → Bool) (l : List DPlaced) (v : Value) (w : World) (hl : l.length ≤ 1000000000000) (h : Sl w v 5 (l.map DPlaced.enc))
    (hp : ∀ x ∈ l, ∀ w', Below w.heap.size w w' → Calls Try.prog 163 #[.agg #[.int .i64 x.f.no, .int .i64 x.f.kind, .int .i64 x.f.num, .string x.f.data, .int .i64 x.at_], cv] w' (BoolPost (p x) w')) (b : Bool) (hb : l.any p = b) :
    Calls Try.prog 162 #[v, .func (.func 163) #[] #[cv]] w (BoolPost b w) := by
  have hc := hd (fun w' (hb : Below w.heap.size w w') => ix_so cv p l v w' hl (h.mono hb) (fun x hx w2 h2 => hp x hx w2 (hb.next h2)))
  have hany := hd hb
  have hany2 := fidx_any p l
  rw [hb] at hany2
  generalize fidx p l = r at hc hany2
  clear h hp hb
  cases b with
  | true =>
    have h0 : 0 ≤ r := hany2.2 rfl
    clear hany2
    go_enter Try.func162, Try.ntmps162
    go_wp2_with fail
    refine (hc.out _ (Below.refl _ _)).mono ?_
    rintro e w2 ⟨rfl, hb⟩
    replace hb := hd hb
    go_wp2_with fail
    go_ret
    exact ⟨rfl, hb.out⟩
  | false =>
    have h0 : decide (0 ≤ r) = false := by have := mt hany2.1 (by simp); simp; omega
    clear hany2
    go_enter Try.func162, Try.ntmps162
    go_wp2_with fail
    refine (hc.out _ (Below.refl _ _)).mono ?_
    rintro e w2 ⟨rfl, hb⟩
    replace hb := hd hb
    go_wp2_with fail
    go_ret
    exact ⟨rfl, hb.out⟩
theorem any_map (x : DWant) (l : List DPlaced) : (l.map (·.f)).any (wIs x) = l.any (wIsP x) := by rw [List.any_map]; rfl
set_option maxHeartbeats 3200000 in
theorem so_i (l : List DWant) (pl : List DPlaced) (bk : Nat) (a : Option Addr) (c : Nat) (u : Value) (hok : okAll l) (hl : l.length ≤ 20) (hpl : pl.length ≤ 40) (hs : ∀ p ∈ pl, p.f.data.size ≤ 1000000000000) (ht : ∀ x ∈ l, x.text.size ≤ 1000000000000) :
    ∀ (n k : Nat) (w : World), k < n → k < l.length → w.cell? ⟨bk, 0, none⟩ = some (.slice a l.length c) → Sl w (.slice a l.length c) 6 (l.map DWant.enc) → Sl w u 5 (pl.map DPlaced.enc) →
      Calls Try.prog 103 #[.pointer (some ⟨bk, 0, none⟩), .int .i64 k, u] w (BoolPost (soB l (pl.map (·.f)) n k) w) := by
  have hok := hd hok
  have hs := hd hs
  have ht := hd ht
  intro n
  induction n with
  | zero => intro k w h; omega
  | succ n ih =>
    intro k w hkn hk q hW hP
    have ih := hd ih
    have hW' := hd hW
    have hP' := hd hP
    have hq' := hd q
    have hkI : (k : Int) < (l.length : Int) := by omega
    have hwp := hd (hok.out k hk)
    have htx := ht.out l[k] (List.getElem_mem hk)
    have hrec := soB_at (fs := pl.map (·.f)) (n := n) hk
    obtain ⟨a1, k1, hav, hrr⟩ := hW
    rw [List.length_map] at hav
    cases hav
    obtain ⟨b1, o1, rfl, C1⟩ := rows_at hrr (k := k) (by rw [List.length_map]; exact hk)
    obtain ⟨f0, f1, f2, f3, f4, f5⟩ := Cells.rowWant l k hk C1
    rw [any_map] at hrec
    generalize l[k] = x at *
    generalize soB l (pl.map (·.f)) (n + 1) k = z at *
    have hx4 := hd (show BoxN (w.alloc (.cells #[.int .i64 x.kind, .int .i64 x.no, .int .i64 x.num, .string x.text, .int .i64 x.a, .int .i64 x.b] 148)) w.heap.size x.enc from BoxN.new w x.enc _)
    have hb4 := hd (below_a1 w (a := .cells #[.int .i64 x.kind, .int .i64 x.no, .int .i64 x.num, .string x.text, .int .i64 x.a, .int .i64 x.b] 148))
    have hcs : x.kind = 6 ∨ x.kind = 7 ∨ x.kind = 8 ∨ (¬ x.kind = 6 ∧ ¬ x.kind = 7 ∧ ¬ x.kind = 8) := by omega
    replace hrec := hd hrec
    go_enter Try.func103, Try.ntmps103
    go_upto_region 2 with (fail)
    have hqW := hd (keepCell hb4.out hq'.out)
    have p0 := hx4.out.1 0 _ rfl; have p1 := hx4.out.1 1 _ rfl; have p2 := hx4.out.1 2 _ rfl; have p3 := hx4.out.1 3 _ rfl; have p4 := hx4.out.1 4 _ rfl; have p5 := hx4.out.1 5 _ rfl
    generalize w.alloc (.cells #[.int .i64 x.kind, .int .i64 x.no, .int .i64 x.num, .string x.text, .int .i64 x.a, .int .i64 x.b] 148) = W at *
    clear f0 f1 f2 f3 f4 f5 q hP
    rcases hcs with h6 | h7 | h8 | ⟨h6, h7, h8⟩
    · obtain ⟨ha0, hab, hbk⟩ : 0 ≤ x.a ∧ x.a < x.b ∧ x.b < (k : Int) := by rcases hwp.out with h | h | h <;> omega
      obtain ⟨ma, hma⟩ := Int.eq_ofNat_of_zero_le ha0
      obtain ⟨mb, hmb⟩ := Int.eq_ofNat_of_zero_le (show 0 ≤ x.b by omega)
      have g6 : (x.kind == 6) = true := by simpa using h6
      have hz := hd (show z = (soB l (pl.map (·.f)) n ma && soB l (pl.map (·.f)) n mb) by rw [hrec.out, if_pos h6, hma, hmb]; rfl)
      rw [hma] at p4
      rw [hmb] at p5
      have ca := hd (ih.out ma W (by omega) (by omega) hqW.out (hW'.out.mono hb4.out) (hP'.out.mono hb4.out))
      have cb := hd (fun w2 (hb : Below W.heap.size W w2) => ih.out mb w2 (by omega) (by omega) (keepCell hb hqW.out) (hW'.out.mono (hb4.out.next hb)) (hP'.out.mono (hb4.out.next hb)))
      generalize soB l (pl.map (·.f)) n ma = ra at *
      generalize soB l (pl.map (·.f)) n mb = rb at *
      clear h6 hwp hma hmb
      cases ra with
      | false =>
        go_wp2_with fail
        refine ca.out.mono ?_
        rintro e w3 ⟨rfl, hb3⟩
        have hB3 := hd (hb4.out.next hb3)
        clear hb3
        go_wp2_with fail
        go_ret
        exact ⟨by rw [hz.out]; rfl, hB3.out⟩
      | true =>
        go_wp2_with fail
        refine ca.out.mono ?_
        rintro e w3 ⟨rfl, hb3⟩
        have hB3 := hd (hb4.out.next hb3)
        have cb2 := hd (cb.out w3 hb3)
        have p5' := keepCell hb3 p5
        clear hb3
        go_wp2_with fail
        refine cb2.out.mono ?_
        rintro e w5 ⟨rfl, hb5⟩
        have hB5 := hd (hB3.out.next hb5)
        clear hb5
        go_wp2_with fail
        go_ret
        exact ⟨by rw [hz.out]; rfl, hB5.out⟩
    · obtain ⟨ha0, hab, hbk⟩ : 0 ≤ x.a ∧ x.a < x.b ∧ x.b < (k : Int) := by rcases hwp.out with h | h | h <;> omega
      obtain ⟨ma, hma⟩ := Int.eq_ofNat_of_zero_le ha0
      obtain ⟨mb, hmb⟩ := Int.eq_ofNat_of_zero_le (show 0 ≤ x.b by omega)
      have g6 : (x.kind == 6) = false := by simp; omega
      have g7 : (x.kind == 7) = true := by simpa using h7
      have hz := hd (show z = (soB l (pl.map (·.f)) n ma || soB l (pl.map (·.f)) n mb) by rw [hrec.out, if_neg (by omega), if_pos h7, hma, hmb]; rfl)
      rw [hma] at p4
      rw [hmb] at p5
      have ca := hd (ih.out ma W (by omega) (by omega) hqW.out (hW'.out.mono hb4.out) (hP'.out.mono hb4.out))
      have cb := hd (fun w2 (hb : Below W.heap.size W w2) => ih.out mb w2 (by omega) (by omega) (keepCell hb hqW.out) (hW'.out.mono (hb4.out.next hb)) (hP'.out.mono (hb4.out.next hb)))
      generalize soB l (pl.map (·.f)) n ma = ra at *
      generalize soB l (pl.map (·.f)) n mb = rb at *
      clear h7 hwp hma hmb
      cases ra with
      | true =>
        go_wp2_with fail
        refine ca.out.mono ?_
        rintro e w3 ⟨rfl, hb3⟩
        have hB3 := hd (hb4.out.next hb3)
        clear hb3
        go_wp2_with fail
        go_ret
        exact ⟨by rw [hz.out]; rfl, hB3.out⟩
      | false =>
        go_wp2_with fail
        refine ca.out.mono ?_
        rintro e w3 ⟨rfl, hb3⟩
        have hB3 := hd (hb4.out.next hb3)
        have cb2 := hd (cb.out w3 hb3)
        have p5' := keepCell hb3 p5
        clear hb3
        go_wp2_with fail
        refine cb2.out.mono ?_
        rintro e w5 ⟨rfl, hb5⟩
        have hB5 := hd (hB3.out.next hb5)
        clear hb5
        go_wp2_with fail
        go_ret
        exact ⟨by rw [hz.out]; rfl, hB5.out⟩
    · obtain ⟨ha0, hab⟩ : 0 ≤ x.a ∧ x.a < (k : Int) := by rcases hwp.out with h | h | h <;> omega
      obtain ⟨ma, hma⟩ := Int.eq_ofNat_of_zero_le ha0
      have g6 : (x.kind == 6) = false := by simp; omega
      have g7 : (x.kind == 7) = false := by simp; omega
      have g8 : (x.kind == 8) = true := by simpa using h8
      have hz := hd (show z = !soB l (pl.map (·.f)) n ma by rw [hrec.out, if_neg (by omega), if_neg (by omega), if_pos h8, hma]; rfl)
      rw [hma] at p4
      have ca := hd (ih.out ma W (by omega) (by omega) hqW.out (hW'.out.mono hb4.out) (hP'.out.mono hb4.out))
      generalize soB l (pl.map (·.f)) n ma = ra at *
      clear h8 hwp hma
      go_wp2_with fail
      refine ca.out.mono ?_
      rintro e w3 ⟨rfl, hb3⟩
      have hB3 := hd (hb4.out.next hb3)
      clear hb3
      go_wp2_with fail
      go_ret
      exact ⟨by rw [hz.out]; rfl, hB3.out⟩
    · have g6 : (x.kind == 6) = false := by simpa using h6
      have g7 : (x.kind == 7) = false := by simpa using h7
      have g8 : (x.kind == 8) = false := by simpa using h8
      have hz := hd (show pl.any (wIsP x) = z by rw [hrec.out, if_neg h6, if_neg h7, if_neg h8])
      have cc := hd (cf_so (.pointer (some ⟨w.heap.size, 0, none⟩)) (wIsP x) pl u W (by omega) (hP'.out.mono hb4.out) (fun y hy w' hb => so_cl x y _ w' (hs.out y hy) htx (keepCell hb p0) (keepCell hb p1) (keepCell hb p2) (keepCell hb p3)) z hz.out)
      clear h6 h7 h8 hwp
      go_wp2_with fail
      refine cc.out.mono ?_
      rintro e w3 ⟨rfl, hb3⟩
      have hB3 := hd (hb4.out.next hb3)
      clear hb3
      go_wp2_with fail
      go_ret
      exact ⟨rfl, hB3.out⟩
end Go.Proofs.Ytpkmghllidejhaa
