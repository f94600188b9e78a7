/- What a field must be, and its bytes: of the program and of the reference. -/
import Derived.Test.YtpkmghllidejhaaVarS
import Derived.Test.YtpkmghllidejhaaNum
import Derived.Test.YtpkmghllidejhaaTest
import Derived.Test.YtpkmghllidejhaaField
namespace Go.Proofs.Ytpkmghllidejhaa
open Go.RowKit
set_option linter.unusedVariables false
set_option maxRecDepth 100000

def fieldB (x : DField) : Bool := decide (1 ≤ x.no ∧ x.no ≤ 30) && (if x.kind = 0 then numB x.num && emptyS x.data else if x.kind = 2 then decide (x.num = 0) else false)
set_option maxHeartbeats 1600000 in
theorem fieldOK_i (x : DField) (w : World) (b : Bool) (hb : fieldB x = b) : Calls Try.prog 131 #[.agg #[.int .i64 x.no, .int .i64 x.kind, .int .i64 x.num, .string x.data]] w (BoolPost b w) := by
  obtain ⟨no, kind, num, data⟩ := x
  subst hb
  have c1 := hd (fun w => numberOK_i num w)
  generalize hn : numB num = nb at *
  replace hn := hd hn
  go_enter Try.func131, Try.ntmps131
  go_wp2_with (first | (go_at_call 138; refine (within_i _ _ _ _ _ rfl).mono ?_; rintro e w' ⟨rfl, rfl⟩) | (go_at_call 179; refine (c1.out _).mono ?_; rintro e w' ⟨rfl, rfl⟩))
  all_goals go_ret
  all_goals refine ⟨ret_bool ?_, below_a1 _⟩
  all_goals go_light
  all_goals replace hn := hn.out
  all_goals (rw [Bool.eq_iff_iff]; simp_all [fieldB, emptyS]; try omega)
set_option maxHeartbeats 1600000 in
theorem field_s (x : DField) (w : World) (b : Bool) (hb : fieldB x = b) : Calls Try.prog 64 #[.agg #[.int .i64 x.no, .int .i64 x.kind, .int .i64 x.num, .string x.data]] w (BoolPost b w) := by
  obtain ⟨no, kind, num, data⟩ := x
  subst hb
  have c1 := hd (fun w => number_s num w)
  generalize hn : numB num = nb at *
  replace hn := hd hn
  go_enter Try.func64, Try.ntmps64
  go_wp2_with (first | (go_at_call 127; refine (within_s _ _ _ _ _ rfl).mono ?_; rintro e w' ⟨rfl, rfl⟩) | (go_at_call 128; refine (c1.out _).mono ?_; rintro e w' ⟨rfl, rfl⟩))
  all_goals go_ret
  all_goals refine ⟨ret_bool ?_, below_a1 _⟩
  all_goals go_light
  all_goals replace hn := hn.out
  all_goals (rw [Bool.eq_iff_iff]; simp_all [fieldB, emptyS]; try omega)
def fieldBad (x : DField) : Bool := !fieldB x
theorem fieldCl (x : DField) (w : World) : Calls Try.prog 130 #[.agg #[.int .i64 x.no, .int .i64 x.kind, .int .i64 x.num, .string x.data]] w (BoolPost (fieldBad x) w) := by
  have c1 := hd (fun w => fieldOK_i x w _ rfl)
  have hs := hd (show fieldBad x = !fieldB x from rfl)
  generalize fieldB x = q at *
  go_enter Try.func130, Try.ntmps130
  go_wp2_with fail
  refine (c1.out _).mono ?_
  rintro e w1 ⟨rfl, hb⟩
  have hB := hd ((below_a1 w).next hb)
  clear hb
  go_wp2_with fail
  go_ret
  exact ⟨by rw [hs.out]; rfl, hB.out⟩
set_option maxHeartbeats 800000 in
theorem ix_fldCl (p : DField → Bool) (l : List DField) (v : Value) (w : World) (hl : l.length ≤ 1000000000000) (h : Sl w v 4 (l.map DField.enc))
    (hp : ∀ x ∈ l, ∀ w', Below w.heap.size w w' → Calls Try.prog 130 #[.agg #[.int .i64 x.no, .int .i64 x.kind, .int .i64 x.num, .string x.data]] w' (BoolPost (p x) w')) :
    Calls Try.prog 178 #[v, .func (.func 130) #[] #[]] w (IntPost (fidx p l) w) := by
  replace hp := hd hp
  rcases h.open with ⟨a1, c1, rfl, hr⟩ | ⟨b1, o1, c1, rfl, hr, C1⟩
  · obtain rfl : l = [] := by simpa using hr
    go_enter Try.func178, Try.ntmps178
    go_wp2
    go_loopw [8] (fun i wr => i = .int .i64 0 ∧ wr = w) (fun _ _ => 0)
    case atStart => exact ⟨rfl, rfl⟩
    case round =>
      obtain ⟨rfl, rfl⟩ := hrel
      go_wp2_with fail
      go_ret
      exact ⟨rfl, Below.refl _ _⟩
  · clear h
    simp only [List.length_map]
    go_enter Try.func178, Try.ntmps178
    go_wp2
    go_loopw [8] (fun i wr => ∃ k : Nat, k ≤ l.length ∧ i = .int .i64 k ∧ Hd (fidx_from p l k) ∧ Hd (Below w.heap.size w wr)) (fun i _ => l.length - (intOf i).toNat)
    case atStart => exact ⟨0, Nat.zero_le _, rfl, fidx_zero p l, Below.refl _ _⟩
    case round =>
      obtain ⟨k, hk, rfl, hfx, hbl⟩ := hrel
      by_cases hlt : k < l.length
      · obtain ⟨f0, f1, f2, f3⟩ := Cells.rowField l k hlt (C1.mono hbl.out)
        cases hpx : p l[k] with
        | true =>
          replace hpx := hd hpx
          go_wp2_with fail
          refine (hp.out l[k] (List.getElem_mem hlt) _ hbl.out).mono ?_
          rw [hpx.out]
          rintro e w2 ⟨rfl, hb⟩
          have hb2 := hd (hbl.out.next hb)
          clear hb
          go_wp2_with fail
          go_ret
          exact ⟨ret_int (fidx_hit hlt hfx.out hpx.out).symm, hb2.out⟩
        | false =>
          replace hpx := hd hpx
          go_wp2_with fail
          refine (hp.out l[k] (List.getElem_mem hlt) _ hbl.out).mono ?_
          rw [hpx.out]
          rintro e w2 ⟨rfl, hb⟩
          have hb2 := hd (hbl.out.next hb)
          clear hb
          go_wp2_with fail
          go_roundw
          case rel => exact ⟨k + 1, by omega, by go_num, fidx_step hlt hfx.out hpx.out, hb2⟩
          case measure => simp [intOf]; omega
      · go_wp2_with fail
        go_ret
        exact ⟨ret_int (fidx_none (by omega) hfx.out).symm, hbl.out⟩
set_option maxHeartbeats 400000 in
theorem cf_fldCl (p : DField → Bool) (l : List DField) (v : Value) (w : World) (hl : l.length ≤ 1000000000000) (h : Sl w v 4 (l.map DField.enc))
    (hp : ∀ x ∈ l, ∀ w', Below w.heap.size w w' → Calls Try.prog 130 #[.agg #[.int .i64 x.no, .int .i64 x.kind, .int .i64 x.num, .string x.data]] w' (BoolPost (p x) w')) (b : Bool) (hb : l.any p = b) :
    Calls Try.prog 129 #[v, .func (.func 130) #[] #[]] w (BoolPost b w) := by
  have hc := hd (fun w' (hb : Below w.heap.size w w') => ix_fldCl p l v w' hl (h.mono hb) (fun x hx w2 h2 => hp x hx w2 (hb.next h2)))
  have hany := hd hb
  have hany2 := fidx_any p l
  rw [hb] at hany2
  generalize fidx p l = r at hc hany2
  clear h hp hb
  cases b with
  | true =>
    have h0 : 0 ≤ r := hany2.2 rfl
    clear hany2
    go_enter Try.func129, Try.ntmps129
    go_wp2_with fail
    refine (hc.out _ (Below.refl _ _)).mono ?_
    rintro e w2 ⟨rfl, hb⟩
    replace hb := hd hb
    go_wp2_with fail
    go_ret
    exact ⟨rfl, hb.out⟩
  | false =>
    have h0 : decide (0 ≤ r) = false := by have := mt hany2.1 (by simp); simp; omega
    clear hany2
    go_enter Try.func129, Try.ntmps129
    go_wp2_with fail
    refine (hc.out _ (Below.refl _ _)).mono ?_
    rintro e w2 ⟨rfl, hb⟩
    replace hb := hd hb
    go_wp2_with fail
    go_ret
    exact ⟨rfl, hb.out⟩
def fieldsB (l : List DField) : Bool := decide (l.length ≤ 40) && !l.any fieldBad
theorem fieldsOK_i (l : List DField) (v : Value) (w : World) (hl : l.length ≤ 1000000000000) (h : Sl w v 4 (l.map DField.enc)) (b : Bool) (hb : fieldsB l = b) : Calls Try.prog 66 #[v] w (BoolPost b w) := by
  have hS := hd h
  obtain ⟨a1, c1, rfl, _⟩ := h
  simp only [List.length_map] at hS ⊢
  by_cases hn : l.length ≤ 40
  · obtain ⟨p, hp⟩ : ∃ p, l.any fieldBad = p := ⟨_, rfl⟩
    have hres := hd (show b = !p by rw [← hb, fieldsB, hp]; simp [hn])
    have hnI : (l.length : Int) ≤ 40 := by omega
    clear hb
    replace hp := hd hp
    go_enter Try.func66, Try.ntmps66
    go_wp2_with fail
    refine (cf_fldCl fieldBad l _ _ hl hS.out (fun x _ w' _ => fieldCl x w') p hp.out).mono ?_
    rintro e w1 ⟨rfl, hb1⟩
    replace hb1 := hd hb1
    go_wp2_with fail
    go_ret
    exact ⟨by rw [hres.out]; rfl, hb1.out⟩
  · have hres := hd (show b = false by rw [← hb, fieldsB]; simp; omega)
    have hnI : ¬ (l.length : Int) ≤ 40 := by omega
    clear hb
    go_enter Try.func66, Try.ntmps66
    go_wp2_with fail
    go_ret
    exact ⟨by rw [hres.out]; rfl, Below.refl _ _⟩
end Go.Proofs.Ytpkmghllidejhaa
