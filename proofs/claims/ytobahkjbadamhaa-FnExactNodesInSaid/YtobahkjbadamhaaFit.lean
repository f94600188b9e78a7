/- Where what begins at a node ends, if it fits a type: leafOK, fit of the program. -/
import Derived.Test.YtobahkjbadamhaaFitM
import Derived.Test.YtobahkjbadamhaaSubSch
import Derived.BigQuiet
namespace Go.Proofs.Ytobahkjbadamhaa
open Go.RowKit
set_option linter.unusedVariables false
set_option maxRecDepth 100000
set_option maxHeartbeats 1600000 in
theorem leafOK_i (t : K) (v : K) (up : Int) (vt : Value) (w : World) (lo hi : Nat) (hR : RepP w lo hi t vt) (hsz : v.name.size ≤ 1000000000000) (hn : holdsB t.of = false) :
    Calls Try.prog 124 #[vt, .agg #[.int .i64 v.most, .string v.name, .int .i64 v.no, .int .i64 up, .bool v.must]] w (BoolPost (leafB t.of t.most v) w) := by
  obtain ⟨b, a, c, vs, rfl, hb, c0, c1, c2, c3, c4, c5, hS, hl, hg⟩ := hR.open
  have hz := hd (show leafB t.of t.most v = (!v.must && (if t.of = 2 then (v.most == 0) && decide (v.name.size ≤ 30) else if t.of = 3 then decide (0 ≤ v.most ∧ v.most ≤ t.most) && v.name.toList.isEmpty else numB v.most && v.name.toList.isEmpty)) from rfl)
  clear c1 c2 c3 c5 hS hl hg hR hn
  have k0 := fun o => keepCell (below_a1 w (a := o)) c0
  have k4 := fun o => keepCell (below_a1 w (a := o)) c4
  generalize leafB t.of t.most v = z at *
  generalize t.of = o at *
  generalize t.most = tm at *
  generalize v.most = n at *
  generalize v.name = s at *
  generalize v.no = vn at *
  generalize v.must = m at *
  cases m with
  | true =>
    go_enter Try.func124, Try.ntmps124
    go_wp2_with fail
    go_ret
    exact ⟨by rw [hz.out]; rfl, below_a1 _⟩
  | false =>
    by_cases h2 : o = 2
    · subst h2
      cases hn0 : (n == 0) with
      | false =>
        go_enter Try.func124, Try.ntmps124
        go_wp2_with fail
        go_ret
        exact ⟨by rw [hz.out, hn0]; rfl, below_a1 _⟩
      | true =>
        by_cases hs : (s.size : Int) ≤ 30
        · go_enter Try.func124, Try.ntmps124
          go_wp2_with fail
          go_ret
          exact ⟨by rw [hz.out, hn0]; simp; omega, below_a1 _⟩
        · have hsB : decide ((s.size : Int) ≤ 30) = false := by simpa using hs
          go_enter Try.func124, Try.ntmps124
          go_wp2_with fail
          go_ret
          exact ⟨by rw [hz.out, hn0]; simp; omega, below_a1 _⟩
    · have h2b : (o == 2) = false := by simpa using h2
      by_cases h3 : o = 3
      · subst h3
        have hz2 := hd (show z = (decide (0 ≤ n ∧ n ≤ tm) && s.toList.isEmpty) by rw [hz.out]; rfl)
        have cw := hd (fun w => within_i n 0 tm w (decide (0 ≤ n ∧ n ≤ tm)) rfl)
        clear hz
        cases hw : decide (0 ≤ n ∧ n ≤ tm) with
        | false =>
          rw [hw] at cw
          replace hw := hd hw
          go_enter Try.func124, Try.ntmps124
          go_wp2_with fail
          go_quiet ((go_at_call 55; exact Calls.quiet_of_same ((cw.out _).mono fun e w' h => ⟨h.1, h.2.symm⟩)))
          go_wp2_with fail
          go_ret
          exact ⟨by rw [hz2.out, hw.out]; rfl, below_drewN (below_a1 _) _⟩
        | true =>
          rw [hw] at cw
          replace hw := hd hw
          go_enter Try.func124, Try.ntmps124
          go_wp2_with fail
          go_quiet ((go_at_call 55; exact Calls.quiet_of_same ((cw.out _).mono fun e w' h => ⟨h.1, h.2.symm⟩)))
          go_wp2_with fail
          go_ret
          exact ⟨by rw [hz2.out, hw.out]; rfl, below_drewN (below_a1 _) _⟩
      · have h3b : (o == 3) = false := by simpa using h3
        have hz2 := hd (show z = (numB n && s.toList.isEmpty) by rw [hz.out, if_neg h2, if_neg h3]; rfl)
        have cn := hd (fun w => numberOK_i n w)
        clear hz
        cases hw : numB n with
        | false =>
          rw [hw] at cn hz2
          go_enter Try.func124, Try.ntmps124
          go_wp2_with fail
          refine (cn.out _).mono ?_
          rintro e w' ⟨rfl, rfl⟩
          go_wp2_with fail
          go_ret
          exact ⟨by rw [hz2.out]; rfl, below_a1 _⟩
        | true =>
          rw [hw] at cn hz2
          go_enter Try.func124, Try.ntmps124
          go_wp2_with fail
          refine (cn.out _).mono ?_
          rintro e w' ⟨rfl, rfl⟩
          go_wp2_with fail
          go_ret
          exact ⟨by rw [hz2.out]; rfl, below_a1 _⟩
set_option maxHeartbeats 1600000 in
theorem own_q0 (l : List DNode) (b1 o1 c bE bL bA n a : Nat) (w : World) (hl : l.length ≤ 1000000) (hC : Cells w b1 o1 5 (l.map DNode.enc)) (cE : w.cell? ⟨bE, 0, none⟩ = some (.int .i64 n)) (cL : w.cell? ⟨bL, 0, none⟩ = some (.slice (some ⟨b1, o1, none⟩) l.length c)) (cA : w.cell? ⟨bA, 0, none⟩ = some (.int .i64 a)) (r : Bool) (hr : r = true ↔ U (trees l) n = (a : Int)) :
    Calls Try.prog 125 #[.pointer (some ⟨bE, 0, none⟩), .pointer (some ⟨bL, 0, none⟩), .pointer (some ⟨bA, 0, none⟩)] w (fun e w' => e = .returned (.bool r) ∧ ∃ m, w' = w.drewN m) := by
  by_cases hlt : n < l.length
  · have hltI : (n : Int) < (l.length : Int) := by omega
    have hltB : decide (n < l.length) = true := by simpa using hlt
    obtain ⟨f0, f1, f2, f3, f4⟩ := Cells.rowNode l n hlt hC
    have hz := hd (show r = (l[n].up == (a : Int)) by rw [Bool.eq_iff_iff, hr, UN_at hlt]; simp)
    clear hr hC f0 f1 f2 f4
    generalize l[n].up = u at *
    go_enter Try.func125, Try.ntmps125
    go_wp2_with fail
    go_quiet (fail)
    go_wp2_with fail
    go_ret
    exact ⟨by rw [hz.out]; rfl, ⟨_, rfl⟩⟩
  · have hltB : decide (n < l.length) = false := by simpa using hlt
    have hltI : decide ((n : Int) < (l.length : Int)) = false := by simp; omega
    have hz := hd (show r = false from nb hr (fun e => by rw [UN_no (by omega)] at e; omega))
    clear hr hC hlt
    go_enter Try.func125, Try.ntmps125
    go_wp2_with fail
    go_quiet (fail)
    go_wp2_with fail
    go_ret
    exact ⟨by rw [hz.out]; rfl, ⟨_, rfl⟩⟩
theorem own_q (l : List DNode) (b1 o1 c bE bL bA n a : Nat) (w : World) (hl : l.length ≤ 1000000) (hC : Cells w b1 o1 5 (l.map DNode.enc)) (cE : w.cell? ⟨bE, 0, none⟩ = some (.int .i64 n)) (cL : w.cell? ⟨bL, 0, none⟩ = some (.slice (some ⟨b1, o1, none⟩) l.length c)) (cA : w.cell? ⟨bA, 0, none⟩ = some (.int .i64 a)) (r : Bool) (hr : r = true ↔ U (trees l) n = (a : Int)) (k : Nat) :
    Calls Try.prog 125 #[.pointer (some ⟨bE, 0, none⟩), .pointer (some ⟨bL, 0, none⟩), .pointer (some ⟨bA, 0, none⟩)] (w.drewN k) (fun e w' => e = .returned (.bool r) ∧ ∃ m, w' = (w.drewN k).drewN m) :=
  have hb := below_drewN (Below.refl _ w) k
  own_q0 l b1 o1 c bE bL bA n a (w.drewN k) hl (hC.mono hb) (keepCell hb cE) (keepCell hb cL) (keepCell hb cA) r hr
theorem own_c (l : List DNode) (b1 o1 c bE bL bA n a : Nat) (w : World) (hl : l.length ≤ 1000000) (hC : Cells w b1 o1 5 (l.map DNode.enc)) (cE : w.cell? ⟨bE, 0, none⟩ = some (.int .i64 n)) (cL : w.cell? ⟨bL, 0, none⟩ = some (.slice (some ⟨b1, o1, none⟩) l.length c)) (cA : w.cell? ⟨bA, 0, none⟩ = some (.int .i64 a)) (r : Bool) (hr : r = true ↔ U (trees l) n = (a : Int)) :
    Calls Try.prog 125 #[.pointer (some ⟨bE, 0, none⟩), .pointer (some ⟨bL, 0, none⟩), .pointer (some ⟨bA, 0, none⟩)] w (BoolPost r w) :=
  (own_q0 l b1 o1 c bE bL bA n a w hl hC cE cL cA r hr).mono fun e w' ⟨h1, m, h2⟩ => ⟨h1, by rw [h2]; exact below_drewN (Below.refl _ w) m⟩
end Go.Proofs.Ytobahkjbadamhaa
