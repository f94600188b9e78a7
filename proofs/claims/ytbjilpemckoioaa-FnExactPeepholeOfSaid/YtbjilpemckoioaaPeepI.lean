/- PeepholeOf of the program: the code at a place; whether a jump leads to a place. -/
import Derived.Test.YtbjilpemckoioaaPeepM
import Derived.Test.YtbjilpemckoioaaReads
namespace Go.Proofs.Ytbjilpemckoioaa
open Go.RowKit
set_option linter.unusedVariables false
set_option maxRecDepth 100000
theorem at0_code {l : List DInstr} {i : Nat} (h : l.length ≤ i) : (at0 l i).code = 0 := by rw [at0_ge h]; rfl
set_option maxHeartbeats 800000 in
theorem codeAt_i (l : List DInstr) (a : Nat) (v : Value) (w : World) (hl : l.length ≤ 1000000000) (h : Sl w v 6 (l.map DInstr.enc)) (r : Int) (hr : (at0 l a).code = r) :
    Calls Try.prog 125 #[v, .int .i64 a] w (IntPost r w) := by
  obtain ⟨a0, k0, rfl, hrr⟩ := h
  replace hrr := hd hrr
  simp only [List.length_map]
  by_cases hlt : a < l.length
  · have hltI : ¬ (l.length : Int) ≤ (a : Int) := by omega
    have hltJ : (a : Int) < (l.length : Int) := by omega
    obtain ⟨b1, o1, rfl, C1⟩ := rows_at hrr.out (k := a) (by rw [List.length_map]; omega)
    obtain ⟨f0, f1, f2, f3, f4, f5⟩ := Cells.rowInstr l a hlt C1
    rw [at0_lt hlt] at hr
    rw [hr] at f0
    clear hr f1 f2 f3 f4 f5
    go_enter Try.func125, Try.ntmps125
    go_wp2_with fail
    go_ret
    exact ⟨rfl, Below.refl _ _⟩
  · have hltI : (l.length : Int) ≤ (a : Int) := by omega
    have hz := hd (show r = 0 by rw [← hr]; exact at0_code (by omega))
    clear hr
    go_enter Try.func125, Try.ntmps125
    go_wp2_with fail
    go_ret
    exact ⟨by rw [hz.out]; rfl, Below.refl _ _⟩
set_option maxHeartbeats 800000 in
theorem ix_ledF (cv : Value) (p : DInstr → Bool) (l : List DInstr) (v : Value) (w : World) (hl : l.length ≤ 1000000000000) (h : Sl w v 6 (l.map DInstr.enc))
    (hp : ∀ x ∈ l, ∀ w', Below w.heap.size w w' → Calls Try.prog 157 #[.agg #[.int .i64 x.code, .int .i64 x.kind, .int .i64 x.no, .int .i64 x.num, .string x.text, .int .i64 x.to], cv] w' (BoolPost (p x) w')) :
    Calls Try.prog 189 #[v, .func (.func 157) #[] #[cv]] w (IntPost (fidx p l) w) := by
  replace hp := hd hp
  rcases h.open with ⟨a1, c1, rfl, hr⟩ | ⟨b1, o1, c1, rfl, hr, C1⟩
  · obtain rfl : l = [] := by simpa using hr
    go_enter Try.func189, Try.ntmps189
    go_wp2
    go_loopw [8] (fun i wr => i = .int .i64 0 ∧ wr = w) (fun _ _ => 0)
    case atStart => exact ⟨rfl, rfl⟩
    case round =>
      obtain ⟨rfl, rfl⟩ := hrel
      go_wp2_with fail
      go_ret
      exact ⟨rfl, Below.refl _ _⟩
  · clear h
    simp only [List.length_map]
    go_enter Try.func189, Try.ntmps189
    go_wp2
    go_loopw [8] (fun i wr => ∃ k : Nat, k ≤ l.length ∧ i = .int .i64 k ∧ Hd (fidx_from p l k) ∧ Hd (Below w.heap.size w wr)) (fun i _ => l.length - (intOf i).toNat)
    case atStart => exact ⟨0, Nat.zero_le _, rfl, fidx_zero p l, Below.refl _ _⟩
    case round =>
      obtain ⟨k, hk, rfl, hfx, hbl⟩ := hrel
      by_cases hlt : k < l.length
      · obtain ⟨f0, f1, f2, f3, f4, f5⟩ := Cells.rowInstr l k hlt (C1.mono hbl.out)
        cases hpx : p l[k] with
        | true =>
          replace hpx := hd hpx
          go_wp2_with fail
          refine (hp.out l[k] (List.getElem_mem hlt) _ hbl.out).mono ?_
          rw [hpx.out]
          rintro e w2 ⟨rfl, hb⟩
          have hb2 := hd (hbl.out.next hb)
          clear hb
          go_wp2_with fail
          go_ret
          exact ⟨ret_int (fidx_hit hlt hfx.out hpx.out).symm, hb2.out⟩
        | false =>
          replace hpx := hd hpx
          go_wp2_with fail
          refine (hp.out l[k] (List.getElem_mem hlt) _ hbl.out).mono ?_
          rw [hpx.out]
          rintro e w2 ⟨rfl, hb⟩
          have hb2 := hd (hbl.out.next hb)
          clear hb
          go_wp2_with fail
          go_roundw
          case rel => exact ⟨k + 1, by omega, by go_num, fidx_step hlt hfx.out hpx.out, hb2⟩
          case measure => simp [intOf]; omega
      · go_wp2_with fail
        go_ret
        exact ⟨ret_int (fidx_none (by omega) hfx.out).symm, hbl.out⟩
set_option maxHeartbeats 400000 in
theorem cf_ledF (cv : Value) (p : DInstr → Bool) (l : List DInstr) (v : Value) (w : World) (hl : l.length ≤ 1000000000000) (h : Sl w v 6 (l.map DInstr.enc))
    (hp : ∀ x ∈ l, ∀ w', Below w.heap.size w w' → Calls Try.prog 157 #[.agg #[.int .i64 x.code, .int .i64 x.kind, .int .i64 x.no, .int .i64 x.num, .string x.text, .int .i64 x.to], cv] w' (BoolPost (p x) w')) (b : Bool) (hb : l.any p = b) :
    Calls Try.prog 156 #[v, .func (.func 157) #[] #[cv]] w (BoolPost b w) := by
  have hc := hd (fun w' (hb : Below w.heap.size w w') => ix_ledF cv p l v w' hl (h.mono hb) (fun x hx w2 h2 => hp x hx w2 (hb.next h2)))
  have hany := hd hb
  have hany2 := fidx_any p l
  rw [hb] at hany2
  generalize fidx p l = r at hc hany2
  clear h hp hb
  cases b with
  | true =>
    have h0 : 0 ≤ r := hany2.2 rfl
    clear hany2
    go_enter Try.func156, Try.ntmps156
    go_wp2_with fail
    refine (hc.out _ (Below.refl _ _)).mono ?_
    rintro e w2 ⟨rfl, hb⟩
    replace hb := hd hb
    go_wp2_with fail
    go_ret
    exact ⟨rfl, hb.out⟩
  | false =>
    have h0 : decide (0 ≤ r) = false := by have := mt hany2.1 (by simp); simp; omega
    clear hany2
    go_enter Try.func156, Try.ntmps156
    go_wp2_with fail
    refine (hc.out _ (Below.refl _ _)).mono ?_
    rintro e w2 ⟨rfl, hb⟩
    replace hb := hd hb
    go_wp2_with fail
    go_ret
    exact ⟨rfl, hb.out⟩
set_option maxHeartbeats 800000 in
theorem led_cl (x : DInstr) (a : Nat) (bk : Nat) (w : World) (q : w.cell? ⟨bk, 0, none⟩ = some (.int .i64 a)) :
    Calls Try.prog 157 #[.agg #[.int .i64 x.code, .int .i64 x.kind, .int .i64 x.no, .int .i64 x.num, .string x.text, .int .i64 x.to], .pointer (some ⟨bk, 0, none⟩)] w (BoolPost (x.code == 3 && x.to == (a : Int)) w) := by
  have hb1 := hd (below_a1 w (a := .cells #[.int .i64 x.code, .int .i64 x.kind, .int .i64 x.no, .int .i64 x.num, .string x.text, .int .i64 x.to] 119))
  have q1 := keepCell hb1.out q
  have hx := hd (show BoxN (w.alloc (.cells #[.int .i64 x.code, .int .i64 x.kind, .int .i64 x.no, .int .i64 x.num, .string x.text, .int .i64 x.to] 119)) w.heap.size x.enc from BoxN.new w x.enc _)
  go_enter Try.func157, Try.ntmps157
  go_upto_region 1 with (fail)
  have p0 := hx.out.1 0 _ rfl
  have p5 := hx.out.1 5 _ rfl
  generalize w.alloc (.cells #[.int .i64 x.code, .int .i64 x.kind, .int .i64 x.no, .int .i64 x.num, .string x.text, .int .i64 x.to] 119) = w4 at *
  clear hx q
  by_cases h3 : x.code = 3
  · have h3b : (x.code == 3) = true := by simpa using h3
    have hz := hd (show (x.code == 3 && x.to == (a : Int)) = (x.to == (a : Int)) by rw [h3b, Bool.true_and])
    clear h3
    go_wp2_with fail
    rw [hz.out]
    go_ret
    exact ⟨rfl, hb1.out⟩
  · have h3b : (x.code == 3) = false := by simpa using h3
    have hz := hd (show (x.code == 3 && x.to == (a : Int)) = false by rw [h3b, Bool.false_and])
    clear h3
    go_wp2_with fail
    rw [hz.out]
    go_ret
    exact ⟨rfl, hb1.out⟩
set_option maxHeartbeats 800000 in
theorem led_i (l : List DInstr) (a : Nat) (v : Value) (w : World) (hl : l.length ≤ 1000000000) (h : Sl w v 6 (l.map DInstr.enc)) (r : Bool) (hr : ledB l a = r) :
    Calls Try.prog 126 #[v, .int .i64 a] w (BoolPost r w) := by
  have hb1 := hd (below_a1 w (a := .cells #[.int .i64 a] 3))
  have hq := hd (show (w.alloc (.cells #[.int .i64 a] 3)).cell? ⟨w.heap.size, 0, none⟩ = some (.int .i64 a) by go_simp)
  have cf := hd (cf_ledF (.pointer (some ⟨w.heap.size, 0, none⟩)) (fun x : DInstr => x.code == 3 && x.to == (a : Int)) l v (w.alloc (.cells #[.int .i64 a] 3)) (by omega) (h.mono hb1.out) (fun x _ w' hw' => led_cl x a w.heap.size w' (keepCell hw' hq.out)) r hr)
  obtain ⟨a0, k0, rfl, -⟩ := h
  clear hr
  simp only [List.length_map] at cf ⊢
  go_enter Try.func126, Try.ntmps126
  go_upto_region 1 with (fail)
  generalize w.alloc (.cells #[.int .i64 a] 3) = W at *
  go_wp2_with fail
  refine cf.out.mono ?_
  rintro e w2 ⟨rfl, hb2⟩
  have hB := hd (hb1.out.next hb2)
  clear hb2
  go_wp2_with fail
  go_ret
  exact ⟨rfl, hB.out⟩
end Go.Proofs.Ytbjilpemckoioaa
