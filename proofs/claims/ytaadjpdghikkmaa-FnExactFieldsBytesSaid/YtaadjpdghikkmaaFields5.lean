/- FieldsBytes of the reference: the whole. -/
import Derived.Test.YtaadjpdghikkmaaFields4
namespace Go.Proofs.Ytaadjpdghikkmaa
open Go.RowKit
set_option linter.unusedVariables false
set_option maxRecDepth 100000
theorem fr_bad {l : List DField} (h : ¬ (fieldsB l = true ∧ (flat l).length ≤ 400)) : fieldsRB l = false ∧ fieldsR l = [] := by
  constructor
  · rw [fieldsRB, Bool.eq_false_iff]; intro e; apply h; simpa using e
  · rw [fieldsR, if_neg h]
theorem fr_bad1 {l : List DField} {x : DField} (hm : x ∈ l) (h : fieldB x = false) : fieldsRB l = false ∧ fieldsR l = [] :=
  fr_bad fun e => by have := (fieldsB_mem e.1).2 x hm; rw [h] at this; cases this
theorem fr_bad2 {l : List DField} {x : DField} (hm : x ∈ l) (h : 400 < x.data.size) : fieldsRB l = false ∧ fieldsR l = [] :=
  fr_bad fun e => by have h1 := fb_ge x ((fieldsB_mem e.1).2 x hm); have h2 := fb_mem hm; omega
theorem fr_good {l : List DField} (hn : l.length ≤ 40) (h : ∀ x ∈ l, fieldB x = true) : fieldsB l = true := by
  simp only [fieldsB, Bool.and_eq_true, decide_eq_true_eq, Bool.not_eq_true', List.any_eq_false]
  exact ⟨hn, fun x hx => by simp [fieldBad, h x hx]⟩

set_option maxHeartbeats 3200000 in
theorem FieldsBytes_s (l : List DField) (v : Value) (w : World) (hl : l.length ≤ 1000000000000) (hs : ∀ x ∈ l, x.data.size ≤ 1048576) (h : Sl w v 4 (l.map DField.enc)) (b : Bool) (hb : fieldsRB l = b) (r : List UInt8) (hr : fieldsR l = r) :
    Calls Try.prog 51 #[v] w (SbPost r b w) := by
  have hS := hd h
  have hs := hd hs
  have hb := hd hb
  have hr := hd hr
  obtain ⟨a1, c1, rfl, hrr⟩ := h
  replace hrr := hd hrr
  simp only [List.length_map] at hS ⊢
  go_enter Try.func51, Try.ntmps51
  go_wp2_with fail
  go_loopw [9] (fun i wr => ∃ k : Nat, k ≤ l.length ∧ i = .int .i64 k ∧ Hd (∀ i (h : i < l.length), i < k → fieldB l[i] = true) ∧ Hd (Below w.heap.size w wr)) (fun i _ => l.length - (intOf i).toNat)
  case atStart => exact ⟨0, Nat.zero_le _, rfl, fun i h hk => absurd hk (Nat.not_lt_zero _), Below.refl _ _⟩
  case round =>
    obtain ⟨k, hk, rfl, hall, hbl⟩ := hrel
    obtain ⟨wo, rfl⟩ : ∃ wo : World, wo = wr := ⟨_, rfl⟩
    by_cases hlt : k < l.length
    · have hltI : (k : Int) < (l.length : Int) := by omega
      obtain ⟨b1, o1, rfl, C1⟩ : ∃ b o, a1 = some ⟨b, o, none⟩ ∧ Cells w b o 4 (l.map DField.enc) := by
        rcases hrr.out with h | ⟨b, o, e, C⟩
        · exfalso; have : l = [] := by simpa using h
          subst this; simp at hlt
        · exact ⟨b, o, e, C⟩
      obtain ⟨f0, f1, f2, f3⟩ := Cells.rowField l k hlt (C1.mono hbl.out)
      have hmem := hd (List.getElem_mem hlt)
      have hnext := hd (show fieldB l[k] = true → ∀ i (h : i < l.length), i < k + 1 → fieldB l[i] = true by
        intro h0 i h hi
        by_cases e : i = k
        · subst e; exact h0
        · exact hall.out i h (by omega))
      generalize hx : l[k] = x at *
      replace hx := hd hx
      obtain ⟨p, hp⟩ : ∃ p, fieldB x = p := ⟨_, rfl⟩
      have c1 := hd (fun w => field_s x w p hp)
      replace hp := hd hp
      go_upto_region 4 with (fail)
      have hbl2 := hd (hbl.out.next (below_a1 wo (a := (.cells #[.int .i64 x.no, .int .i64 x.kind, .int .i64 x.num, .string x.data] 119))))
      have g0 : (World.alloc wo (.cells #[.int .i64 x.no, .int .i64 x.kind, .int .i64 x.num, .string x.data] 119)).cell? ⟨wo.heap.size, 0, none⟩ = some (.int .i64 x.no) := by go_simp
      have g1 : (World.alloc wo (.cells #[.int .i64 x.no, .int .i64 x.kind, .int .i64 x.num, .string x.data] 119)).cell? ⟨wo.heap.size, 1, none⟩ = some (.int .i64 x.kind) := by go_simp
      have g2 : (World.alloc wo (.cells #[.int .i64 x.no, .int .i64 x.kind, .int .i64 x.num, .string x.data] 119)).cell? ⟨wo.heap.size, 2, none⟩ = some (.int .i64 x.num) := by go_simp
      have g3 : (World.alloc wo (.cells #[.int .i64 x.no, .int .i64 x.kind, .int .i64 x.num, .string x.data] 119)).cell? ⟨wo.heap.size, 3, none⟩ = some (.string x.data) := by go_simp
      generalize World.alloc wo (.cells #[.int .i64 x.no, .int .i64 x.kind, .int .i64 x.num, .string x.data] 119) = W2 at hbl2 g0 g1 g2 g3 ⊢
      clear f0 f1 f2 f3
      cases p with
      | false =>
        obtain ⟨e1, e2⟩ := fr_bad1 hmem.out hp.out
        have hbf := hd (show b = false by rw [← hb.out, e1])
        have hrf := hd (show r = [] by rw [← hr.out, e2])
        clear e1 e2
        go_wp2_with (go_at_call 98; refine (c1.out _).mono ?_; rintro e w3 ⟨rfl, hb3⟩; have k3 := keepCell hb3 g3; replace hb3 := hd hb3)
        go_ret2
        exact ⟨by rw [hrf.out, hbf.out]; rfl, (hbl2.out.next hb3.out)⟩
      | true =>
        by_cases hgt : 400 < x.data.size
        · obtain ⟨e1, e2⟩ := fr_bad2 hmem.out hgt
          have hbf := hd (show b = false by rw [← hb.out, e1])
          have hrf := hd (show r = [] by rw [← hr.out, e2])
          have hgtI : (400 : Int) < (x.data.size : Int) := by omega
          clear e1 e2
          go_wp2_with (go_at_call 98; refine (c1.out _).mono ?_; rintro e w3 ⟨rfl, hb3⟩; have k3 := keepCell hb3 g3; replace hb3 := hd hb3)
          go_ret2
          exact ⟨by rw [hrf.out, hbf.out]; rfl, (hbl2.out.next hb3.out)⟩
        · have hgtI : ¬ (400 : Int) < (x.data.size : Int) := by omega
          have hall2 := hd (hnext.out hp.out)
          clear hnext hall
          go_wp2_with (go_at_call 98; refine (c1.out _).mono ?_; rintro e w3 ⟨rfl, hb3⟩; have k3 := keepCell hb3 g3; replace hb3 := hd hb3)
          have hbl3 := hd (hbl2.out.next hb3.out)
          go_roundw
          case rel => exact ⟨k + 1, by omega, by go_num, hall2.out, hbl3⟩
          case measure => simp [intOf]; omega
    · have hkl : k = l.length := by omega
      subst hkl
      have hok := hd (show ∀ x ∈ l, fieldB x = true by
        intro x hx
        obtain ⟨i, hi, rfl⟩ := List.mem_iff_getElem.1 hx
        exact hall.out i hi hi)
      by_cases hn : l.length ≤ 40
      · have hnI : ¬ (40 : Int) < (l.length : Int) := by omega
        have hg := fr_good hn hok.out
        have c1 := hd (fun (v : Value) (w : World) (h : Sl w v 4 (l.map DField.enc)) => fields_s l v w hn hok.out hs.out h)
        by_cases hf : (flat l).length ≤ 400
        · have hbf := hd (show b = true by rw [← hb.out, fieldsRB, hg]; simp [hf])
          have hrf := hd (show r = flat l by rw [← hr.out, fieldsR, if_pos ⟨hg, hf⟩])
          have hfI : ((mkS (flat l)).size : Int) ≤ 400 := by rw [mkS_size]; omega
          clear hg
          go_wp2_with (go_at_call 99; refine (c1.out _ _ (hS.out.mono hbl.out)).mono ?_; rintro e w3 ⟨rfl, hb3⟩; replace hb3 := hd hb3)
          go_ret2
          exact ⟨by rw [hrf.out, hbf.out]; rfl, (hbl.out.next hb3.out)⟩
        · obtain ⟨e1, e2⟩ := fr_bad (l := l) (fun e => hf e.2)
          have hbf := hd (show b = false by rw [← hb.out, e1])
          have hrf := hd (show r = [] by rw [← hr.out, e2])
          have hfI : ¬ ((mkS (flat l)).size : Int) ≤ 400 := by rw [mkS_size]; omega
          clear hg e1 e2
          go_wp2_with (go_at_call 99; refine (c1.out _ _ (hS.out.mono hbl.out)).mono ?_; rintro e w3 ⟨rfl, hb3⟩; replace hb3 := hd hb3)
          go_ret2
          exact ⟨by rw [hrf.out, hbf.out]; rfl, (hbl.out.next hb3.out)⟩
      · obtain ⟨e1, e2⟩ := fr_bad (l := l) (fun e => hn (fieldsB_mem e.1).1)
        have hbf := hd (show b = false by rw [← hb.out, e1])
        have hrf := hd (show r = [] by rw [← hr.out, e2])
        have hnI : (40 : Int) < (l.length : Int) := by omega
        clear e1 e2
        go_wp2_with fail
        go_ret2
        exact ⟨by rw [hrf.out, hbf.out]; rfl, hbl.out⟩
theorem small_all {l : List DField} (h : SmallField 1048576 l.length l) : ∀ x ∈ l, x.data.size ≤ 1048576 := by
  intro x hx
  obtain ⟨i, hi, rfl⟩ := List.mem_iff_getElem.1 hx
  have := h i hi hi
  omega
end Go.Proofs.Ytaadjpdghikkmaa
