/- Lists of numbers of fields: rising ones; what is in a list. -/
import Derived.Test.YtpkmghllidejhaaInt
import Derived.Test.YtpkmghllidejhaaWire
import Derived.Test.YtpkmghllidejhaaApp
namespace Go.Proofs.Ytpkmghllidejhaa
open Go.RowKit
set_option linter.unusedVariables false
set_option maxRecDepth 100000

theorem rows_at {w : World} {a : Option Addr} {sz k : Nat} {rows : List (List Value)} (h : rows = [] ∨ ∃ b o, a = some ⟨b, o, none⟩ ∧ b < w.heap.size ∧ ∀ i r, rows[i]? = some r → ∀ j u, r[j]? = some u → w.cell? ⟨b, o + i * sz + j, none⟩ = some u) (hk : k < rows.length) :
    ∃ b o, a = some ⟨b, o, none⟩ ∧ Cells w b o sz rows := by
  rcases h with h | ⟨b, o, e, C⟩
  · rw [h] at hk; simp at hk
  · exact ⟨b, o, e, C⟩
def prevI (l : List Int) (k : Nat) : Int := if k = 0 then 0 else l.getD (k - 1) 0
def nosBad (l : List Int) (k : Nat) : Bool := !decide (1 ≤ l.getD k 0 ∧ l.getD k 0 ≤ 30 ∧ prevI l k < l.getD k 0)
def risB (l : List Int) : Bool := (List.range l.length).all fun i => !nosBad l i
theorem ris_true {l : List Int} (h : ∀ i, i < l.length → nosBad l i = false) : risB l = true := by
  rw [risB, List.all_eq_true]
  intro i hi
  rw [h i (by simpa using hi)]; rfl
theorem ris_false {l : List Int} {k : Nat} (hk : k < l.length) (h : nosBad l k = true) : risB l = false := by
  rw [risB, List.all_eq_false]
  exact ⟨k, by simpa using hk, by simp [h]⟩
theorem ris_nos {l : List Int} (h : risB l = true) : ∀ i, i < l.length → nosBad l i = false := by
  intro i hi
  cases e : nosBad l i with
  | false => rfl
  | true => rw [ris_false hi e] at h; cases h
theorem prev_succ {l : List Int} {k : Nat} (h : k < l.length) : prevI l (k + 1) = l[k] := by
  rw [prevI, if_neg (by omega), Nat.add_sub_cancel, List.getD_eq_getElem?_getD, List.getElem?_eq_getElem h]; rfl
theorem getD_lt {l : List Int} {k : Nat} (h : k < l.length) : l.getD k 0 = l[k] := by
  rw [List.getD_eq_getElem?_getD, List.getElem?_eq_getElem h]; rfl
def UpTo (p : Nat → Bool) (k : Nat) : Prop := ∀ i, i < k → p i = false
theorem UpTo.zero (p : Nat → Bool) : UpTo p 0 := fun i h => absurd h (by omega)
theorem UpTo.step {p : Nat → Bool} {k : Nat} (h : UpTo p k) (hp : p k = false) : UpTo p (k + 1) := by
  intro i hi
  by_cases e : i = k
  · subst e; exact hp
  · exact h i (by omega)
theorem prev_bd {l : List Int} {k : Nat} (hk : k ≤ l.length) (h : UpTo (nosBad l) k) : 0 ≤ prevI l k ∧ prevI l k ≤ 30 := by
  rw [prevI]
  split
  · omega
  · have := h (k - 1) (by omega)
    simp only [nosBad, Bool.not_eq_false', decide_eq_true_eq] at this
    omega

set_option maxHeartbeats 400000 in
theorem risingNos_i (l : List Int) (v : Value) (w : World) (hl : l.length ≤ 1000000000000) (h : Sl w v 1 (l.map encI)) (b : Bool) (hb : risB l = b) :
    Calls Try.prog 78 #[v] w (fun e w' => e = .returned (.bool b) ∧ w = w') := by
  replace hb := hd hb
  obtain ⟨a1, c1, rfl, hrr⟩ := h
  replace hrr := hd hrr
  simp only [List.length_map]
  go_enter Try.func78, Try.ntmps78
  go_wp2_with fail
  go_loopw [3, 8] (fun bf i wr => ∃ k : Nat, k ≤ l.length ∧ i = .int .i64 k ∧ bf = .int .i64 (prevI l k) ∧ Hd (UpTo (nosBad l) k) ∧ wr = w) (fun _ i _ => l.length - (intOf i).toNat)
  case atStart => exact ⟨0, Nat.zero_le _, rfl, rfl, UpTo.zero _, rfl⟩
  case round =>
    obtain ⟨k, hk, rfl, rfl, hup, rfl⟩ := hrel
    obtain ⟨hp0, hp1⟩ := prev_bd hk hup.out
    by_cases hlt : k < l.length
    · have hltI : (k : Int) < (l.length : Int) := by omega
      obtain ⟨b1, o1, rfl, C1⟩ := rows_at hrr.out (k := k) (by simpa using hlt)
      have f0 := Cells.rowI l k hlt C1
      have hps := hd (prev_succ hlt)
      obtain ⟨q, hq⟩ : ∃ q, nosBad l k = q := ⟨_, rfl⟩
      have c1 := hd (fun w => within_i l[k] (prevI l k + 1) 30 w (!q) (by
        rw [← hq, nosBad, getD_lt hlt, Bool.not_not]
        congr 1; apply propext; constructor <;> intro h <;> omega))
      replace hq := hd hq
      generalize l[k] = x at *
      generalize prevI l k = p at *
      cases q with
      | true =>
        have hbf := hd (show b = false by rw [← hb.out]; exact ris_false hlt hq.out)
        go_wp2_with (go_at_call 138; refine (c1.out _).mono ?_; rintro e w' ⟨rfl, rfl⟩)
        go_ret
        exact ⟨by rw [hbf.out]; rfl, rfl⟩
      | false =>
        have hup2 := hd (hup.out.step hq.out)
        go_wp2_with (go_at_call 138; refine (c1.out _).mono ?_; rintro e w' ⟨rfl, rfl⟩)
        go_roundw
        case rel => exact ⟨k + 1, by omega, by go_num, by rw [hps.out], hup2, by first | rfl | trivial⟩
        case measure => simp [intOf]; omega
    · have hltI : ¬ (k : Int) < (l.length : Int) := by omega
      have hbt := hd (show b = true by rw [← hb.out]; exact ris_true (fun i hi => hup.out i (by omega)))
      go_wp2_with fail
      go_ret
      exact ⟨by rw [hbt.out]; rfl, rfl⟩

set_option maxHeartbeats 400000 in
theorem nos_s (l : List Int) (v : Value) (w : World) (hl : l.length ≤ 1000000000000) (h : Sl w v 1 (l.map encI)) (b : Bool) (hb : risB l = b) :
    Calls Try.prog 74 #[v] w (fun e w' => e = .returned (.bool b) ∧ w = w') := by
  replace hb := hd hb
  obtain ⟨a1, c1, rfl, hrr⟩ := h
  replace hrr := hd hrr
  simp only [List.length_map]
  go_enter Try.func74, Try.ntmps74
  go_wp2_with fail
  go_loopw [7] (fun i wr => ∃ k : Nat, k ≤ l.length ∧ i = .int .i64 k ∧ Hd (UpTo (nosBad l) k) ∧ wr = w) (fun i _ => l.length - (intOf i).toNat)
  case atStart => exact ⟨0, Nat.zero_le _, rfl, UpTo.zero _, rfl⟩
  case round =>
    obtain ⟨k, hk, rfl, hup, rfl⟩ := hrel
    by_cases hlt : k < l.length
    · have hltI : (k : Int) < (l.length : Int) := by omega
      obtain ⟨b1, o1, rfl, C1⟩ := rows_at hrr.out (k := k) (by simpa using hlt)
      have f0 := Cells.rowI l k hlt C1
      obtain ⟨r, hr⟩ : ∃ r, decide (1 ≤ l[k] ∧ l[k] ≤ 30) = r := ⟨_, rfl⟩
      have c1 := hd (fun w => within_s l[k] 1 30 w r hr)
      replace hr := hd hr
      cases r with
      | false =>
        have hbf := hd (show b = false by
          rw [← hb.out]; refine ris_false hlt ?_
          have h1 := hr.out
          simp only [decide_eq_false_iff_not] at h1
          rw [nosBad, getD_lt hlt]; simp only [Bool.not_eq_true', decide_eq_false_iff_not]; omega)
        go_wp2_with (go_at_call 127; refine (c1.out _).mono ?_; rintro e w' ⟨rfl, rfl⟩)
        go_ret
        exact ⟨by rw [hbf.out]; rfl, rfl⟩
      | true =>
        by_cases hk0 : k = 0
        · subst hk0
          have f00 : wr.cell? ⟨b1, o1, none⟩ = some (.int .i64 l[0]) := f0
          have hup2 := hd (hup.out.step (show nosBad l 0 = false by
            have h1 := hr.out
            simp only [decide_eq_true_eq] at h1
            rw [nosBad, getD_lt hlt, prevI]; simp; omega))
          go_wp2_with (go_at_call 127; refine (c1.out _).mono ?_; rintro e w' ⟨rfl, rfl⟩)
          go_roundw
          case rel => exact ⟨1, by omega, by go_num, hup2, by first | rfl | trivial⟩
          case measure => simp [intOf]; omega
        · obtain ⟨j, rfl⟩ : ∃ j, k = j + 1 := ⟨k - 1, by omega⟩
          have f1 := Cells.rowI l j (by omega) C1
          have hj0 : (0 : Int) < ((j + 1 : Nat) : Int) := by omega
          have hj1 : (((j + 1 : Nat) : Int) - 1) = (j : Int) := by omega
          have hjl : (j : Int) < (l.length : Int) := by omega
          have hpv := prev_succ (show j < l.length by omega)
          by_cases hge : l[j + 1] ≤ l[j]
          · have hbf := hd (show b = false by
              rw [← hb.out]; refine ris_false hlt ?_
              rw [nosBad, getD_lt hlt, hpv]; simp only [Bool.not_eq_true', decide_eq_false_iff_not]; omega)
            clear hpv
            go_wp2_with (go_at_call 127; refine (c1.out _).mono ?_; rintro e w' ⟨rfl, rfl⟩)
            go_ret
            exact ⟨by rw [hbf.out]; rfl, rfl⟩
          · have hup2 := hd (hup.out.step (show nosBad l (j + 1) = false by
              have h1 := hr.out
              simp only [decide_eq_true_eq] at h1
              rw [nosBad, getD_lt hlt, hpv]; simp only [Bool.not_eq_false', decide_eq_true_eq]; omega))
            clear hpv
            go_wp2_with (go_at_call 127; refine (c1.out _).mono ?_; rintro e w' ⟨rfl, rfl⟩)
            go_roundw
            case rel => exact ⟨j + 1 + 1, by omega, by go_num, hup2, by first | rfl | trivial⟩
            case measure => simp [intOf]; omega
    · have hltI : ¬ (k : Int) < (l.length : Int) := by omega
      have hbt := hd (show b = true by rw [← hb.out]; exact ris_true (fun i hi => hup.out i (by omega)))
      go_wp2_with fail
      go_ret
      exact ⟨by rw [hbt.out]; rfl, rfl⟩

def eqN (n : Int) (x : Int) : Bool := n == x
def hasB (l : List Int) (n : Int) : Bool := l.any (eqN n)

set_option maxHeartbeats 400000 in
theorem index_int (l : List Int) (n : Int) (v : Value) (w : World) (hl : l.length ≤ 1000000000000) (h : Sl w v 1 (l.map encI)) :
    Calls Try.prog 186 #[v, .int .i64 n] w (fun e w' => e = .returned (.int .i64 (fidx (eqN n) l)) ∧ w = w') := by
  obtain ⟨a1, c1, rfl, hrr⟩ := h
  replace hrr := hd hrr
  simp only [List.length_map]
  go_enter Try.func186, Try.ntmps186
  go_wp2_with fail
  go_loopw [8] (fun i wr => ∃ k : Nat, k ≤ l.length ∧ i = .int .i64 k ∧ Hd (fidx_from (eqN n) l k) ∧ wr = w) (fun i _ => l.length - (intOf i).toNat)
  case atStart => exact ⟨0, Nat.zero_le _, rfl, fidx_zero _ _, rfl⟩
  case round =>
    obtain ⟨k, hk, rfl, hfx, rfl⟩ := hrel
    by_cases hlt : k < l.length
    · have hltI : (k : Int) < (l.length : Int) := by omega
      obtain ⟨b1, o1, rfl, C1⟩ := rows_at hrr.out (k := k) (by simpa using hlt)
      have f0 := Cells.rowI l k hlt C1
      cases hq : eqN n l[k] with
      | true =>
        have hres := hd (fidx_hit hlt hfx.out hq)
        have hq2 : (n == l[k]) = true := hq
        clear hq
        go_wp2_with fail
        go_ret
        exact ⟨by rw [hres.out]; rfl, rfl⟩
      | false =>
        have hst := hd (fidx_step hlt hfx.out hq)
        have hq2 : (n == l[k]) = false := hq
        clear hq
        go_wp2_with fail
        go_roundw
        case rel => exact ⟨k + 1, by omega, by go_num, hst, by first | rfl | trivial⟩
        case measure => simp [intOf]; omega
    · have hltI : ¬ (k : Int) < (l.length : Int) := by omega
      have hres := hd (fidx_none (by omega) hfx.out)
      go_wp2_with fail
      go_ret
      exact ⟨by rw [hres.out]; rfl, rfl⟩

theorem contains_int (l : List Int) (n : Int) (v : Value) (w : World) (hl : l.length ≤ 1000000000000) (h : Sl w v 1 (l.map encI)) (b : Bool) (hb : hasB l n = b) :
    Calls Try.prog 140 #[v, .int .i64 n] w (fun e w' => e = .returned (.bool b) ∧ w = w') := by
  have hc := hd (fun w h => index_int l n v w hl h)
  have hS := hd h
  have hany := fidx_any (eqN n) l
  rw [show l.any (eqN n) = b from hb] at hany
  generalize fidx (eqN n) l = r at hc hany
  clear h hb
  cases b with
  | true =>
    have h0 : 0 ≤ r := hany.2 rfl
    clear hany
    go_enter Try.func140, Try.ntmps140
    go_wp2_with fail
    refine (hc.out _ hS.out).mono ?_
    rintro e w2 ⟨rfl, rfl⟩
    go_wp2_with fail
    go_ret
    exact ⟨rfl, rfl⟩
  | false =>
    have h0 : decide (0 ≤ r) = false := by have := mt hany.1 (by simp); simp; omega
    clear hany
    go_enter Try.func140, Try.ntmps140
    go_wp2_with fail
    refine (hc.out _ hS.out).mono ?_
    rintro e w2 ⟨rfl, rfl⟩
    go_wp2_with fail
    go_ret
    exact ⟨rfl, rfl⟩
set_option maxHeartbeats 400000 in
theorem has_s (l : List Int) (n : Int) (v : Value) (w : World) (hl : l.length ≤ 1000000000000) (h : Sl w v 1 (l.map encI)) (b : Bool) (hb : hasB l n = b) :
    Calls Try.prog 108 #[v, .int .i64 n] w (fun e w' => e = .returned (.bool b) ∧ w = w') := by
  replace hb := hd hb
  obtain ⟨a1, c1, rfl, hrr⟩ := h
  replace hrr := hd hrr
  simp only [List.length_map]
  go_enter Try.func108, Try.ntmps108
  go_wp2_with fail
  go_loopw [9] (fun i wr => ∃ k : Nat, k ≤ l.length ∧ i = .int .i64 k ∧ Hd (fidx_from (eqN n) l k) ∧ wr = w) (fun i _ => l.length - (intOf i).toNat)
  case atStart => exact ⟨0, Nat.zero_le _, rfl, fidx_zero _ _, rfl⟩
  case round =>
    obtain ⟨k, hk, rfl, hfx, rfl⟩ := hrel
    by_cases hlt : k < l.length
    · have hltI : (k : Int) < (l.length : Int) := by omega
      obtain ⟨b1, o1, rfl, C1⟩ := rows_at hrr.out (k := k) (by simpa using hlt)
      have f0 := Cells.rowI l k hlt C1
      cases hq : eqN n l[k] with
      | true =>
        have hbt := hd (show b = true by rw [← hb.out]; exact List.any_eq_true.2 ⟨_, List.getElem_mem hlt, hq⟩)
        have hq2 : (l[k] == n) = true := by simp only [eqN] at hq; simp at hq ⊢; exact hq.symm
        clear hq
        go_wp2_with fail
        go_ret
        exact ⟨by rw [hbt.out]; rfl, rfl⟩
      | false =>
        have hst := hd (fidx_step hlt hfx.out hq)
        have hq2 : (l[k] == n) = false := by simp only [eqN] at hq; simp at hq ⊢; exact fun e => hq e.symm
        clear hq
        go_wp2_with fail
        go_roundw
        case rel => exact ⟨k + 1, by omega, by go_num, hst, by first | rfl | trivial⟩
        case measure => simp [intOf]; omega
    · have hltI : ¬ (k : Int) < (l.length : Int) := by omega
      have hbf := hd (show b = false by
        rw [← hb.out]
        rw [hasB, List.any_eq_false]
        intro x hx
        obtain ⟨i, hi, rfl⟩ := List.mem_iff_getElem.1 hx
        rw [hfx.out i hi (by omega)]; simp)
      go_wp2_with fail
      go_ret
      exact ⟨by rw [hbf.out]; rfl, rfl⟩
end Go.Proofs.Ytpkmghllidejhaa
